/- Locks: one step of either of the two, one contract each. Conditions: those that each contract names. -/
import Derived.Test.YtpemlpahpbpbeaaRising
namespace Go.Proofs.Ytpemlpahpbpbeaa.Lk
open Go.RowKit
set_option linter.unusedVariables false
set_option linter.unusedSimpArgs false
/-- The two places where the two have come to. -/
def At (w : World) (q a0 a1 : Nat) : Prop := w.heap[q]? = some (.cells #[.int .i64 a0, .int .i64 a1] 43 (0, 0))
theorem At.lt {w : World} {q a0 a1 : Nat} (h : At w q a0 a1) : q < w.heap.size := (Array.getElem?_eq_some_iff.1 h).1
theorem At.cell0 {w : World} {q a0 a1 : Nat} (h : At w q a0 a1) : w.cell? ⟨q, 0, none⟩ = some (.int .i64 a0) := by
  unfold At at h; simp only [World.cell?, h]; simp
theorem At.cell1 {w : World} {q a0 a1 : Nat} (h : At w q a0 a1) : w.cell? ⟨q, 1, none⟩ = some (.int .i64 a1) := by
  unfold At at h; simp only [World.cell?, h]; simp
theorem At.free {w : World} {q a0 a1 : Nat} (h : At w q a0 a1) (i : Nat) : w.frozen? ⟨q, i, none⟩ = false := by
  unfold At at h; simp only [World.frozen?, h]; simp
theorem At.other {w w' : World} {q a0 a1 : Nat} (h : At w q a0 a1) (hb : w'.heap[q]? = w.heap[q]?) : At w' q a0 a1 := by unfold At; rw [hb]; exact h
theorem At.alloc {w : World} {q a0 a1 : Nat} (h : At w q a0 a1) (o : Obj) : At (w.alloc o) q a0 a1 := h.other (Below.heap_alloc _ _ _ h.lt)
theorem At.set0 {w : World} {q a0 a1 : Nat} (h : At w q a0 a1) (b : Nat) : At (w.setCell ⟨q, 0, none⟩ (.int .i64 b)) q b a1 := by
  unfold At at h ⊢
  simp only [World.setCell, Array.getElem?_modify, h]; simp
theorem At.set1 {w : World} {q a0 a1 : Nat} (h : At w q a0 a1) (b : Nat) : At (w.setCell ⟨q, 1, none⟩ (.int .i64 b)) q a0 b := by
  unfold At at h ⊢
  simp only [World.setCell, Array.getElem?_modify, h]; simp
/-- Of what was there only the blocks p and q have turned. -/
structure Both (p q : Nat) (w w' : World) : Prop where
  os : w'.os = w.os
  tape : w'.tape = w.tape
  output : w'.output = w.output
  size : w.heap.size ≤ w'.heap.size
  block : ∀ k, k < w.heap.size → k ≠ p → k ≠ q → w'.heap[k]? = w.heap[k]?
theorem Both.refl (p q : Nat) (w : World) : Both p q w w := ⟨rfl, rfl, rfl, Nat.le_refl _, fun _ _ _ _ => rfl⟩
theorem Both.trans {p q : Nat} {a b c : World} (h : Both p q a b) (k : Both p q b c) : Both p q a c :=
  ⟨k.os.trans h.os, k.tape.trans h.tape, k.output.trans h.output, Nat.le_trans h.size k.size, fun i hi hp hq => (k.block i (Nat.lt_of_lt_of_le hi h.size) hp hq).trans (h.block i hi hp hq)⟩
theorem Both.of_below {p q : Nat} {w w' : World} (h : Below w.heap.size w w') : Both p q w w' := ⟨h.os, h.tape, h.output, h.size, fun k hk _ _ => h.block k hk⟩
theorem Both.of_only {p q : Nat} {w w' : World} (h : Only p w w') : Both p q w w' := ⟨h.os, h.tape, h.output, h.size, fun k hk hp _ => h.block k hk hp⟩
theorem Both.of_only' {p q : Nat} {w w' : World} (h : Only q w w') : Both p q w w' := ⟨h.os, h.tape, h.output, h.size, fun k hk _ hq => h.block k hk hq⟩
theorem Both.below {p q B : Nat} {W w w' : World} (hb : Below B W w) (h : Both p q w w') (hp : B ≤ p) (hq : B ≤ q) (hB : B ≤ w.heap.size) : Below B W w' :=
  hb.trans ⟨h.os, h.tape, h.output, h.size, fun k hk => h.block k (by omega) (by omega) (by omega)⟩
/-- One step of who, at place a of the list L. -/
def stB (who : Int) (L bs : List Int) (a : Nat) : List Int := if a < L.length then tryB bs who (L.getD a 0) else if a = L.length then frees bs (heldL bs who) else bs
def stA (who : Int) (L bs : List Int) (a : Nat) : Nat := if a < L.length then (if tryE bs who (L.getD a 0) = 0 then a + 1 else a) else if a = L.length then a + 1 else a

set_option maxRecDepth 100000 in
set_option maxHeartbeats 1600000 in
theorem step0 (p q : Nat) (bs : List Int) (a0 a1 n0 c0 n1 c1 : Nat) (A0 A1 : Option Addr) (L0 : List Int) (w : World) (hF : Five 48 w p bs) (hA : At w q a0 a1) (hI : IsInts w A0 n0 L0) (hr : ∀ i, i < L0.length → ∃ m : Nat, m < 5 ∧ L0.getD i 0 = m)
    (hbl : ∀ ad, A0 = some ad → n0 ≠ 0 → ad.block ≠ p ∧ ad.block ≠ q) (hn : n0 ≤ 5) (ha : a0 ≤ 6) (hpq : p ≠ q) :
    Calls Try.prog 20 #[.pointer (some ⟨p, 0, none⟩), .int .i64 0, .agg #[.slice A0 n0 c0, .slice A1 n1 c1], .pointer (some ⟨q, 0, none⟩)] w fun e w' => e = .returned (.tuple #[]) ∧ Five 48 w' p (stB 0 L0 bs a0) ∧ At w' q (stA 0 L0 bs a0) a1 ∧ Both p q w w' := by
  have F := hid hF
  have P := hid hA
  have I := hid hI
  have LN := hid hI.1
  have R := hid hr
  have BL := hid hbl
  have hp := hF.lt
  have hq := hA.lt
  have ca : w.cell? ⟨q, 0, none⟩ = some (.int .i64 a0) := hA.cell0
  have fa : w.frozen? ⟨q, 0, none⟩ = false := hA.free 0
  clear hF hA hI hr hbl
  have O := hid (Both.refl p q w)
  by_cases h1 : a0 < n0
  · obtain ⟨b, off, hAe, hbl, hc⟩ : ∃ b off, A0 = some ⟨b, off, none⟩ ∧ b < w.heap.size ∧ ∀ i, i < n0 → w.cell? ⟨b, off + i, none⟩ = some (.int .i64 (L0.getD i 0)) := by
      rcases I.out with ⟨_, h0 | h⟩
      · omega
      · exact h
    have hne := BL.out _ hAe (by omega)
    obtain ⟨hbp, hbq⟩ := hne
    simp only at hbp hbq
    subst hAe
    have cl := hc a0 h1
    obtain ⟨x, hx5, hx⟩ := R.out a0 (by rw [LN.out]; exact h1)
    rw [hx] at cl
    have X := hid hx
    clear hc hx
    have hi0 : (a0 : Int) < (n0 : Int) := by omega
    have eA : ∀ e', tryE bs 0 x = e' → stB 0 L0 bs a0 = tryB bs 0 x ∧ stA 0 L0 bs a0 = if e' = 0 then a0 + 1 else a0 := by
      intro e' he
      unfold stB stA
      rw [if_pos (by rw [LN.out]; exact h1), if_pos (by rw [LN.out]; exact h1), X.out, he]
      exact ⟨rfl, rfl⟩
    have EA := hid eA
    clear eA
    go_enter Try.func20, Try.ntmps20
    go_wp2_with fail
    go_quiet (fail)
    go_wp2_with fail
    have F1 := hid (show Five 48 ((w.alloc (.cells #[.slice (some ⟨b, off, none⟩) n0 c0, .slice A1 n1 c1] 42)).drewN nq).drew p bs from ⟨F.out.five, (F.out.alloc _).block⟩)
    have P1 := hid (show At ((w.alloc (.cells #[.slice (some ⟨b, off, none⟩) n0 c0, .slice A1 n1 c1] 42)).drewN nq).drew q a0 a1 from P.out.alloc _)
    have D1 := hid (show (((w.alloc (.cells #[.slice (some ⟨b, off, none⟩) n0 c0, .slice A1 n1 c1] 42)).drewN nq).drew).cell? ⟨b, off + a0, none⟩ = some (.int .i64 x) by go_simp)
    have D2 := hid (show (((w.alloc (.cells #[.slice (some ⟨b, off, none⟩) n0 c0, .slice A1 n1 c1] 42)).drewN nq).drew).cell? ⟨q, 0, none⟩ = some (.int .i64 a0) by go_simp)
    have D3 := hid (show (((w.alloc (.cells #[.slice (some ⟨b, off, none⟩) n0 c0, .slice A1 n1 c1] 42)).drewN nq).drew).cell? ⟨w.heap.size, 0, none⟩ = some (.slice (some ⟨b, off, none⟩) n0 c0) by go_simp)
    have D4 := hid (show Below w.heap.size w (((w.alloc (.cells #[.slice (some ⟨b, off, none⟩) n0 c0, .slice A1 n1 c1] 42)).drewN nq).drew) from (Below.drewN' ((Below.refl _ _).alloc (Nat.le_refl _) _) nq).drew)
    obtain ⟨e1, he1⟩ : ∃ e1, tryE bs 0 x = e1 := ⟨_, rfl⟩
    have e2 := EA.out e1 he1
    have E := hid he1
    have E2 := hid e2
    clear he1 e2
    have hwp : w.heap.size ≠ p := by omega
    go_region_held3 (fun w' => w'.cell? ⟨b, off + a0, none⟩ = some (.int .i64 x) ∧ w'.cell? ⟨q, 0, none⟩ = some (.int .i64 a0) ∧ w'.cell? ⟨w.heap.size, 0, none⟩ = some (.slice (some ⟨b, off, none⟩) n0 c0)) (first | exact ⟨D1.out, D2.out, D3.out⟩ | exact ⟨S1.out, S2.out, S3.out⟩)
      (first
        | (go_at_call 7; ((with_reducible refine (try_to _ bs (tryB bs 0 x) 0 x e1 _ ?_ E.out rfl).mono ?_)); (focus (exact F1.out)); rintro e w2 ⟨rfl, hf2, ho2⟩; have F2 := hid hf2; have O2 := hid ho2; clear hf2 ho2
           have S1 := hid ((O2.out.cell (a := ⟨b, off + a0, none⟩) (by simp; omega) hbp).trans D1.out)
           have S2 := hid ((O2.out.cell (a := ⟨q, 0, none⟩) (by simp; omega) (Ne.symm hpq)).trans D2.out)
           have S3 := hid ((O2.out.cell (a := ⟨w.heap.size, 0, none⟩) (by simp) hwp).trans D3.out)
           have P2 := hid (P1.out.other (O2.out.block q (by simp; omega) (Ne.symm hpq)))))
    have OO := hid ((Both.of_below (p := p) (q := q) D4.out).trans (Both.of_only O2.out))
    clear F1 P1 D1 D2 D3 ca fa cl S1 S2 S3
    by_cases h0 : e1 = 0
    · have hb0 : (e1 == 0) = true := by simp [h0]
      have ca := P2.out.cell0
      have fa := P2.out.free 0
      have Z := hid h0
      clear h0
      go_wp2_with fail
      go_region
      all_goals go_wp2_with fail
      go_end0
      refine ⟨rfl, ?_, ?_, OO.out.trans (Both.of_only' ((Only.set q 0 w2 (.int .i64 ((a0 + 1 : Nat) : Int))).trans ⟨rfl, rfl, rfl, Nat.le_refl _, fun _ _ _ => rfl⟩))⟩
      · rw [E2.out.1]; exact (F2.out.other (Below.heap_setCell _ _ _ _ hpq))
      · rw [E2.out.2, if_pos Z.out]; exact (P2.out.set0 (a0 + 1))
    · have hb0 : (e1 == 0) = false := by simp [h0]
      have Z := hid h0
      clear h0
      go_wp2_with fail
      go_end0
      exact ⟨rfl, by rw [E2.out.1]; exact F2.out, by rw [E2.out.2, if_neg Z.out]; exact P2.out, OO.out⟩
  · by_cases h2 : a0 = n0
    · have e2 : stB 0 L0 bs a0 = frees bs (heldL bs 0) ∧ stA 0 L0 bs a0 = a0 + 1 := by
        have hlt : ¬ a0 < L0.length := by rw [LN.out]; exact h1
        have heq : a0 = L0.length := by rw [LN.out]; exact h2
        exact ⟨by unfold stB; rw [if_neg hlt, if_pos heq], by unfold stA; rw [if_neg hlt, if_pos heq]⟩
      have E2 := hid e2
      have d1 : decide ((a0 : Int) < (n0 : Int)) = false := by simp; omega
      have d2 : ((a0 : Int) == (n0 : Int)) = true := by simp; omega
      have d3 : decide (a0 < n0) = false := by simp; omega
      have d4 : (a0 == n0) = true := by simp; omega
      have D4 := hid (show Below w.heap.size w (((w.alloc (.cells #[.slice A0 n0 c0, .slice A1 n1 c1] 42)).drewN 1).drewN 1) from Below.drewN' (Below.drewN' ((Below.refl _ _).alloc (Nat.le_refl _) _) 1) 1)
      clear h1 h2 e2
      go_enter Try.func20, Try.ntmps20
      go_wp2_with fail
      go_quiet (fail)
      go_wp2_with fail
      go_quiet (fail)
      go_wp2_with fail
      refine (freeall_any _ bs 0 _ ?_).mono ?_
      · exact ⟨F.out.five, (F.out.alloc _).block⟩
      rintro e w2 ⟨rfl, hf2, ho2⟩
      have F2 := hid hf2
      have O2 := hid ho2
      have hq2 := ho2.size
      clear hf2 ho2
      have P2 := hid ((P.out.alloc _).other (O2.out.block q (by simp; omega) (Ne.symm hpq)))
      clear ca fa
      have ca := P2.out.cell0
      have fa := P2.out.free 0
      go_wp2_with fail
      go_region
      all_goals go_wp2_with fail
      go_end0
      refine ⟨rfl, ?_, ?_, (((Both.of_below (p := p) (q := q) (Below.drewN' ((Below.refl _ _).alloc (Nat.le_refl _) _) _)).trans (Both.of_only O2.out)).trans (Both.of_only' ((Only.set q 0 w2 (.int .i64 ((a0 + 1 : Nat) : Int))).trans ⟨rfl, rfl, rfl, Nat.le_refl _, fun _ _ _ => rfl⟩)))⟩
      · rw [E2.out.1]; exact (F2.out.other (Below.heap_setCell _ _ _ _ hpq))
      · rw [E2.out.2]; exact (P2.out.set0 (a0 + 1))
    · have e2 : stB 0 L0 bs a0 = bs ∧ stA 0 L0 bs a0 = a0 := by
        have hlt : ¬ a0 < L0.length := by rw [LN.out]; exact h1
        have heq : ¬ a0 = L0.length := by rw [LN.out]; exact h2
        exact ⟨by unfold stB; rw [if_neg hlt, if_neg heq], by unfold stA; rw [if_neg hlt, if_neg heq]⟩
      have E2 := hid e2
      have d1 : decide ((a0 : Int) < (n0 : Int)) = false := by simp; omega
      have d2 : ((a0 : Int) == (n0 : Int)) = false := by simp; omega
      have d3 : decide (a0 < n0) = false := by simp; omega
      have d4 : (a0 == n0) = false := by simp; omega
      clear h1 h2 e2
      go_enter Try.func20, Try.ntmps20
      go_wp2_with fail
      go_quiet (fail)
      go_wp2_with fail
      go_quiet (fail)
      go_wp2_with fail
      go_end0
      refine ⟨rfl, by rw [E2.out.1]; exact ⟨F.out.five, (F.out.alloc _).block⟩, by rw [E2.out.2]; exact P.out.alloc _, Both.of_below (Below.drewN' (Below.drewN' ((Below.refl _ _).alloc (Nat.le_refl _) _) _) _)⟩

set_option maxRecDepth 100000 in
set_option maxHeartbeats 1600000 in
theorem step1 (p q : Nat) (bs : List Int) (a0 a1 n0 c0 n1 c1 : Nat) (A0 A1 : Option Addr) (L1 : List Int) (w : World) (hF : Five 48 w p bs) (hA : At w q a0 a1) (hI : IsInts w A1 n1 L1) (hr : ∀ i, i < L1.length → ∃ m : Nat, m < 5 ∧ L1.getD i 0 = m)
    (hbl : ∀ ad, A1 = some ad → n1 ≠ 0 → ad.block ≠ p ∧ ad.block ≠ q) (hn : n1 ≤ 5) (ha : a1 ≤ 6) (hpq : p ≠ q) :
    Calls Try.prog 20 #[.pointer (some ⟨p, 0, none⟩), .int .i64 1, .agg #[.slice A0 n0 c0, .slice A1 n1 c1], .pointer (some ⟨q, 0, none⟩)] w fun e w' => e = .returned (.tuple #[]) ∧ Five 48 w' p (stB 1 L1 bs a1) ∧ At w' q a0 (stA 1 L1 bs a1) ∧ Both p q w w' := by
  have F := hid hF
  have P := hid hA
  have I := hid hI
  have LN := hid hI.1
  have R := hid hr
  have BL := hid hbl
  have hp := hF.lt
  have hq := hA.lt
  have ca : w.cell? ⟨q, 1, none⟩ = some (.int .i64 a1) := hA.cell1
  have fa : w.frozen? ⟨q, 1, none⟩ = false := hA.free 1
  clear hF hA hI hr hbl
  have O := hid (Both.refl p q w)
  by_cases h1 : a1 < n1
  · obtain ⟨b, off, hAe, hbl, hc⟩ : ∃ b off, A1 = some ⟨b, off, none⟩ ∧ b < w.heap.size ∧ ∀ i, i < n1 → w.cell? ⟨b, off + i, none⟩ = some (.int .i64 (L1.getD i 0)) := by
      rcases I.out with ⟨_, h0 | h⟩
      · omega
      · exact h
    have hne := BL.out _ hAe (by omega)
    obtain ⟨hbp, hbq⟩ := hne
    simp only at hbp hbq
    subst hAe
    have cl := hc a1 h1
    obtain ⟨x, hx5, hx⟩ := R.out a1 (by rw [LN.out]; exact h1)
    rw [hx] at cl
    have X := hid hx
    clear hc hx
    have hi0 : (a1 : Int) < (n1 : Int) := by omega
    have eA : ∀ e', tryE bs 1 x = e' → stB 1 L1 bs a1 = tryB bs 1 x ∧ stA 1 L1 bs a1 = if e' = 0 then a1 + 1 else a1 := by
      intro e' he
      unfold stB stA
      rw [if_pos (by rw [LN.out]; exact h1), if_pos (by rw [LN.out]; exact h1), X.out, he]
      exact ⟨rfl, rfl⟩
    have EA := hid eA
    clear eA
    go_enter Try.func20, Try.ntmps20
    go_wp2_with fail
    go_quiet (fail)
    go_wp2_with fail
    have F1 := hid (show Five 48 ((w.alloc (.cells #[.slice A0 n0 c0, .slice (some ⟨b, off, none⟩) n1 c1] 42)).drewN nq).drew p bs from ⟨F.out.five, (F.out.alloc _).block⟩)
    have P1 := hid (show At ((w.alloc (.cells #[.slice A0 n0 c0, .slice (some ⟨b, off, none⟩) n1 c1] 42)).drewN nq).drew q a0 a1 from P.out.alloc _)
    have D1 := hid (show (((w.alloc (.cells #[.slice A0 n0 c0, .slice (some ⟨b, off, none⟩) n1 c1] 42)).drewN nq).drew).cell? ⟨b, off + a1, none⟩ = some (.int .i64 x) by go_simp)
    have D2 := hid (show (((w.alloc (.cells #[.slice A0 n0 c0, .slice (some ⟨b, off, none⟩) n1 c1] 42)).drewN nq).drew).cell? ⟨q, 1, none⟩ = some (.int .i64 a1) by go_simp)
    have D3 := hid (show (((w.alloc (.cells #[.slice A0 n0 c0, .slice (some ⟨b, off, none⟩) n1 c1] 42)).drewN nq).drew).cell? ⟨w.heap.size, 1, none⟩ = some (.slice (some ⟨b, off, none⟩) n1 c1) by go_simp)
    have D4 := hid (show Below w.heap.size w (((w.alloc (.cells #[.slice A0 n0 c0, .slice (some ⟨b, off, none⟩) n1 c1] 42)).drewN nq).drew) from (Below.drewN' ((Below.refl _ _).alloc (Nat.le_refl _) _) nq).drew)
    obtain ⟨e1, he1⟩ : ∃ e1, tryE bs 1 x = e1 := ⟨_, rfl⟩
    have e2 := EA.out e1 he1
    have E := hid he1
    have E2 := hid e2
    clear he1 e2
    have hwp : w.heap.size ≠ p := by omega
    go_region_held3 (fun w' => w'.cell? ⟨b, off + a1, none⟩ = some (.int .i64 x) ∧ w'.cell? ⟨q, 1, none⟩ = some (.int .i64 a1) ∧ w'.cell? ⟨w.heap.size, 1, none⟩ = some (.slice (some ⟨b, off, none⟩) n1 c1)) (first | exact ⟨D1.out, D2.out, D3.out⟩ | exact ⟨S1.out, S2.out, S3.out⟩)
      (first
        | (go_at_call 7; ((with_reducible refine (try_to _ bs (tryB bs 1 x) 1 x e1 _ ?_ E.out rfl).mono ?_)); (focus (exact F1.out)); rintro e w2 ⟨rfl, hf2, ho2⟩; have F2 := hid hf2; have O2 := hid ho2; clear hf2 ho2
           have S1 := hid ((O2.out.cell (a := ⟨b, off + a1, none⟩) (by simp; omega) hbp).trans D1.out)
           have S2 := hid ((O2.out.cell (a := ⟨q, 1, none⟩) (by simp; omega) (Ne.symm hpq)).trans D2.out)
           have S3 := hid ((O2.out.cell (a := ⟨w.heap.size, 1, none⟩) (by simp) hwp).trans D3.out)
           have P2 := hid (P1.out.other (O2.out.block q (by simp; omega) (Ne.symm hpq)))))
    have OO := hid ((Both.of_below (p := p) (q := q) D4.out).trans (Both.of_only O2.out))
    clear F1 P1 D1 D2 D3 ca fa cl S1 S2 S3
    by_cases h0 : e1 = 0
    · have hb0 : (e1 == 0) = true := by simp [h0]
      have ca := P2.out.cell1
      have fa := P2.out.free 1
      have Z := hid h0
      clear h0
      go_wp2_with fail
      go_region
      all_goals go_wp2_with fail
      go_end0
      refine ⟨rfl, ?_, ?_, OO.out.trans (Both.of_only' ((Only.set q 1 w2 (.int .i64 ((a1 + 1 : Nat) : Int))).trans ⟨rfl, rfl, rfl, Nat.le_refl _, fun _ _ _ => rfl⟩))⟩
      · rw [E2.out.1]; exact (F2.out.other (Below.heap_setCell _ _ _ _ hpq))
      · rw [E2.out.2, if_pos Z.out]; exact (P2.out.set1 (a1 + 1))
    · have hb0 : (e1 == 0) = false := by simp [h0]
      have Z := hid h0
      clear h0
      go_wp2_with fail
      go_end0
      exact ⟨rfl, by rw [E2.out.1]; exact F2.out, by rw [E2.out.2, if_neg Z.out]; exact P2.out, OO.out⟩
  · by_cases h2 : a1 = n1
    · have e2 : stB 1 L1 bs a1 = frees bs (heldL bs 1) ∧ stA 1 L1 bs a1 = a1 + 1 := by
        have hlt : ¬ a1 < L1.length := by rw [LN.out]; exact h1
        have heq : a1 = L1.length := by rw [LN.out]; exact h2
        exact ⟨by unfold stB; rw [if_neg hlt, if_pos heq], by unfold stA; rw [if_neg hlt, if_pos heq]⟩
      have E2 := hid e2
      have d1 : decide ((a1 : Int) < (n1 : Int)) = false := by simp; omega
      have d2 : ((a1 : Int) == (n1 : Int)) = true := by simp; omega
      have d3 : decide (a1 < n1) = false := by simp; omega
      have d4 : (a1 == n1) = true := by simp; omega
      have D4 := hid (show Below w.heap.size w (((w.alloc (.cells #[.slice A0 n0 c0, .slice A1 n1 c1] 42)).drewN 1).drewN 1) from Below.drewN' (Below.drewN' ((Below.refl _ _).alloc (Nat.le_refl _) _) 1) 1)
      clear h1 h2 e2
      go_enter Try.func20, Try.ntmps20
      go_wp2_with fail
      go_quiet (fail)
      go_wp2_with fail
      go_quiet (fail)
      go_wp2_with fail
      refine (freeall_any _ bs 1 _ ?_).mono ?_
      · exact ⟨F.out.five, (F.out.alloc _).block⟩
      rintro e w2 ⟨rfl, hf2, ho2⟩
      have F2 := hid hf2
      have O2 := hid ho2
      have hq2 := ho2.size
      clear hf2 ho2
      have P2 := hid ((P.out.alloc _).other (O2.out.block q (by simp; omega) (Ne.symm hpq)))
      clear ca fa
      have ca := P2.out.cell1
      have fa := P2.out.free 1
      go_wp2_with fail
      go_region
      all_goals go_wp2_with fail
      go_end0
      refine ⟨rfl, ?_, ?_, (((Both.of_below (p := p) (q := q) (Below.drewN' ((Below.refl _ _).alloc (Nat.le_refl _) _) _)).trans (Both.of_only O2.out)).trans (Both.of_only' ((Only.set q 1 w2 (.int .i64 ((a1 + 1 : Nat) : Int))).trans ⟨rfl, rfl, rfl, Nat.le_refl _, fun _ _ _ => rfl⟩)))⟩
      · rw [E2.out.1]; exact (F2.out.other (Below.heap_setCell _ _ _ _ hpq))
      · rw [E2.out.2]; exact (P2.out.set1 (a1 + 1))
    · have e2 : stB 1 L1 bs a1 = bs ∧ stA 1 L1 bs a1 = a1 := by
        have hlt : ¬ a1 < L1.length := by rw [LN.out]; exact h1
        have heq : ¬ a1 = L1.length := by rw [LN.out]; exact h2
        exact ⟨by unfold stB; rw [if_neg hlt, if_neg heq], by unfold stA; rw [if_neg hlt, if_neg heq]⟩
      have E2 := hid e2
      have d1 : decide ((a1 : Int) < (n1 : Int)) = false := by simp; omega
      have d2 : ((a1 : Int) == (n1 : Int)) = false := by simp; omega
      have d3 : decide (a1 < n1) = false := by simp; omega
      have d4 : (a1 == n1) = false := by simp; omega
      clear h1 h2 e2
      go_enter Try.func20, Try.ntmps20
      go_wp2_with fail
      go_quiet (fail)
      go_wp2_with fail
      go_quiet (fail)
      go_wp2_with fail
      go_end0
      refine ⟨rfl, by rw [E2.out.1]; exact ⟨F.out.five, (F.out.alloc _).block⟩, by rw [E2.out.2]; exact P.out.alloc _, Both.of_below (Below.drewN' (Below.drewN' ((Below.refl _ _).alloc (Nat.le_refl _) _) _) _)⟩
end Go.Proofs.Ytpemlpahpbpbeaa.Lk
