/- Locks: the document's own Held, Try, Free, FreeAll and Holder. Conditions: those that each contract names. -/
import Derived.Test.YtpemlpahpbpbeaaFree
namespace Go.Proofs.Ytpemlpahpbpbeaa.Lk
open Go.RowKit
set_option linter.unusedVariables false
set_option linter.unusedSimpArgs false

def up (bs : List Int) : List Int := bs.map (· + 1)
def Small (bs : List Int) : Prop := ∀ i, i < 5 → -1 ≤ bs.getD i 0 ∧ bs.getD i 0 ≤ 15
theorem up_get {bs : List Int} (h5 : bs.length = 5) (i : Nat) (hi : i < 5) : (up bs).getD i 0 = bs.getD i 0 + 1 := by
  have : i < bs.length := by omega
  simp [up, this]
theorem up_set (bs : List Int) (i : Nat) (v : Int) : up (bs.set i v) = (up bs).set i (v + 1) := by simp [up, List.map_set]

set_option maxHeartbeats 800000 in
theorem rheld_person (p : Nat) (bs : List Int) (who : Int) (w : World) (hl : bs.length = 5) (h : Five 28 w p (up bs)) (h0 : 0 ≤ who) (h1 : who < 16) :
    Calls Try.prog 17 #[.pointer (some ⟨p, 0, none⟩), .int .i64 who] w fun e w' => ∃ A n c, e = .returned (.slice A n c) ∧ (heldTo bs who 5).length = n ∧ w'.ownsRow w.heap.size 3 1 (.slice A n c) n (nums (heldTo bs who 5)) ∧ Below w.heap.size w w' := by
  have H := hid h
  have HL := hid hl
  have hp := h.lt
  clear h hl
  have h1' : who ≤ 15 := by omega
  go_enter Try.func17, Try.ntmps17
  go_wp2_with fail
  go_loopw [5, 6] (fun v i wr => ∃ (k n c : Nat) (A : Option Addr), k ≤ 5 ∧ i = .int .i64 k ∧ v = .slice A n c ∧ (heldTo bs who k).length = n ∧ wr.ownsRow w.heap.size 3 1 (.slice A n c) n (nums (heldTo bs who k)) ∧ Below w.heap.size w wr) (fun _ i _ => 5 - (intOf i).toNat)
  case atStart => exact ⟨0, 0, 0, none, by omega, rfl, rfl, rfl, ⟨rfl, .inl ⟨rfl, rfl⟩⟩, Below.refl _ _⟩
  case round =>
    obtain ⟨k, n, c, A, hk, rfl, rfl, hn, ho, hb⟩ := hrel
    have hn5 : n ≤ 5 := by have := heldTo_le bs who k; omega
    have HN := hid hn
    have HO := hid ho
    have HB := hid hb
    have hsz := hb.size
    clear hn ho hb
    by_cases hlt : k < 5
    · have hc := (H.out.other (HB.out.block p hp)).cell k hlt
      rw [up_get HL.out k hlt] at hc
      obtain ⟨y, hy⟩ : ∃ y, bs.getD k 0 = y := ⟨_, rfl⟩
      rw [hy] at hc
      have HY := hid hy
      clear hy
      have hk5 : (k : Int) < 5 := by omega
      by_cases he : y = who
      · have hb1 : (y + 1 == who + 1) = true := by simp [he]
        have HE := hid he
        clear he
        go_wp2_with (at_builtin; refine app1 rfl _ _ rfl w.heap.size _ n (heldTo bs who k) rfl (HO.out.alloc _) wr.heap.size k rfl (by go_simp) (by omega) (by simp; omega) w (HB.out.alloc hsz _) ?_; intro g2 c2 w2 hsz2 ho2 hb2)
        go_roundw
        case rel => exact ⟨k + 1, n + 1, c2, _, by omega, by go_num, rfl, by rw [heldTo_yes _ _ _ (by rw [HY.out]; exact HE.out)]; simp [HN.out], by rw [heldTo_yes _ _ _ (by rw [HY.out]; exact HE.out)]; exact ho2, hb2⟩
        case measure => simp [intOf]; omega
      · have hb1 : (y + 1 == who + 1) = false := by simp; omega
        have HE := hid he
        clear he
        go_wp2_with fail
        go_roundw
        case rel => exact ⟨k + 1, n, c, _, by omega, by go_num, rfl, by rw [heldTo_no _ _ _ (by rw [HY.out]; exact HE.out)]; exact HN.out, by rw [heldTo_no _ _ _ (by rw [HY.out]; exact HE.out)]; exact HO.out, HB.out⟩
        case measure => simp [intOf]; omega
    · obtain rfl : k = 5 := by omega
      go_wp2_with fail
      go_ret
      exact ⟨_, _, _, rfl, HN.out, HO.out, HB.out⟩
theorem rheld_nobody (p : Nat) (who : Int) (w : World) (h0 : ¬ (0 ≤ who ∧ who < 16)) :
    Calls Try.prog 17 #[.pointer (some ⟨p, 0, none⟩), .int .i64 who] w fun e w' => e = .returned (.slice none 0 0) ∧ Below w.heap.size w w' := by
  by_cases h1 : 0 ≤ who
  · have h2 : ¬ who ≤ 15 := by omega
    clear h0
    go_enter Try.func17, Try.ntmps17
    go_wp2_with fail
    refine wp_loop_rounds 1 ?_; rw [rounds_succ]
    go_wp2_with fail
    go_ret
    exact ⟨rfl, Below.refl _ _⟩
  · clear h0
    go_enter Try.func17, Try.ntmps17
    go_wp2_with fail
    refine wp_loop_rounds 1 ?_; rw [rounds_succ]
    go_wp2_with fail
    go_ret
    exact ⟨rfl, Below.refl _ _⟩
theorem rheld_own (p : Nat) (bs : List Int) (who : Int) (w : World) (hl : bs.length = 5) (h : Five 28 w p (up bs)) :
    Calls Try.prog 17 #[.pointer (some ⟨p, 0, none⟩), .int .i64 who] w fun e w' => ∃ A n c, e = .returned (.slice A n c) ∧ n ≤ 5 ∧ IsInts w' A n (heldL bs who) ∧ Below w.heap.size w w' ∧ (∀ ad, A = some ad → n ≠ 0 → w.heap.size ≤ ad.block) := by
  by_cases hw : 0 ≤ who ∧ who < 16
  · refine (rheld_person p bs who w hl h hw.1 hw.2).mono ?_
    rintro e w' ⟨A, n, c, rfl, hn, ho, hb⟩
    have e : heldL bs who = heldTo bs who 5 := by unfold heldL; rw [if_pos hw]
    have := heldTo_le bs who 5
    refine ⟨A, n, c, rfl, by omega, by rw [e]; exact own_ints hn ho, hb, ?_⟩
    intro ad had hn0
    obtain ⟨_, h2 | ⟨g, cap, cur, hv, hbg, _⟩⟩ := ho
    · exact absurd h2.2 hn0
    · cases hv; cases had; exact hbg
  · refine (rheld_nobody p who w hw).mono ?_
    rintro e w' ⟨rfl, hb⟩
    have e : heldL bs who = [] := by unfold heldL; rw [if_neg hw]
    exact ⟨none, 0, 0, rfl, by omega, by rw [e]; exact IsInts.nil _, hb, fun _ h => by cases h⟩
theorem rright_any (who lock : Int) (w : World) :
    Calls Try.prog 23 #[.int .i64 who, .int .i64 lock] w fun e w' => e = .returned (.bool (decide (right who lock))) ∧ w = w' := by
  by_cases h1 : 0 ≤ who
  · by_cases h2 : who ≤ 15
    · by_cases h3 : 0 ≤ lock
      · by_cases h4 : lock ≤ 4
        · have e : decide (right who lock) = true := decide_eq_true ⟨⟨h1, by omega⟩, h3, by omega⟩
          rw [e]
          go_enter Try.func23, Try.ntmps23
          go_wp2
          go_ret
          exact ⟨by first | rfl | (simp; done) | (simp; omega), rfl⟩
        · have e : decide (right who lock) = false := decide_eq_false (fun h => by have := h.2.2; omega)
          rw [e]
          go_enter Try.func23, Try.ntmps23
          go_wp2
          go_ret
          exact ⟨by first | rfl | (simp; done) | (simp; omega), rfl⟩
      · have e : decide (right who lock) = false := decide_eq_false (fun h => by have := h.2.1; omega)
        rw [e]
        go_enter Try.func23, Try.ntmps23
        go_wp2
        go_ret
        exact ⟨by first | rfl | (simp; done) | (simp; omega), rfl⟩
    · have e : decide (right who lock) = false := decide_eq_false (fun h => by have := h.1.2; omega)
      rw [e]
      go_enter Try.func23, Try.ntmps23
      go_wp2
      go_ret
      exact ⟨by first | rfl | (simp; done) | (simp; omega), rfl⟩
  · have e : decide (right who lock) = false := decide_eq_false (fun h => by have := h.1.1; omega)
    rw [e]
    go_enter Try.func23, Try.ntmps23
    go_wp2
    go_ret
    exact ⟨by first | rfl | (simp; done) | (simp; omega), rfl⟩
theorem heldTo_last (bs : List Int) (who : Int) (k : Nat) :
    (heldTo bs who k = [] ∧ ∀ i, i < k → bs.getD i 0 ≠ who) ∨
    ∃ (m n : Nat), m < k ∧ bs.getD m 0 = who ∧ (heldTo bs who k).length = n + 1 ∧ (heldTo bs who k).getD n 0 = m ∧ ∀ i, i < k → bs.getD i 0 = who → i ≤ m := by
  induction k with
  | zero => exact .inl ⟨rfl, fun i hi => absurd hi (by omega)⟩
  | succ k ih =>
    by_cases h : bs.getD k 0 = who
    · right
      rw [heldTo_yes _ _ _ h]
      refine ⟨k, (heldTo bs who k).length, by omega, h, by simp, by simp, fun i hi _ => by omega⟩
    · rw [heldTo_no _ _ _ h]
      rcases ih with ⟨h1, h2⟩ | ⟨m, n, h1, h2, h3, h4, h5⟩
      · refine .inl ⟨h1, fun i hi => ?_⟩
        by_cases e : i = k
        · subst e; exact h
        · exact h2 i (by omega)
      · refine .inr ⟨m, n, by omega, h2, h3, h4, fun i hi hw => ?_⟩
        by_cases e : i = k
        · subst e; exact absurd hw h
        · exact h5 i (by omega) hw

def RTryPost (p : Nat) (bs : List Int) (who : Int) (lock : Nat) (w : World) (e : Ending) (w' : World) : Prop :=
  e = .returned (.int .i64 (tryE bs who lock)) ∧ Five 28 w' p (up (tryB bs who lock)) ∧ Only p w w'
theorem rtry_wrong (p : Nat) (who lock : Int) (w : World) (h : ¬ right who lock) :
    Calls Try.prog 8 #[.pointer (some ⟨p, 0, none⟩), .int .i64 who, .int .i64 lock] w fun e w' => e = .returned (.int .i64 1) ∧ w = w' := by
  have d1 := hid (decide_eq_false h)
  clear h
  go_enter Try.func8, Try.ntmps8
  go_wp2_with (go_at_call 23; refine (rright_any _ _ _).mono ?_; rintro e w' ⟨rfl, rfl⟩; rw [d1.out])
  go_ret
  exact ⟨rfl, rfl⟩
set_option maxHeartbeats 1600000 in
theorem rtry_right (p : Nat) (bs : List Int) (who : Int) (lock : Nat) (w : World) (hl : bs.length = 5) (hs : Small bs) (h : Five 28 w p (up bs)) (h0 : 0 ≤ who ∧ who < 16) (h1 : lock < 5) :
    Calls Try.prog 8 #[.pointer (some ⟨p, 0, none⟩), .int .i64 who, .int .i64 lock] w (RTryPost p bs who lock w) := by
  have hr : right who lock := ⟨h0, by omega, by omega⟩
  have R := hid hr
  have d1 := hid (decide_eq_true hr)
  have H := hid h
  have HL := hid hl
  have hp := h.lt
  have eh : heldL bs who = heldTo bs who 5 := by unfold heldL; rw [if_pos h0]
  have EH := hid eh
  have hlast := hid (heldTo_last bs who 5)
  have hy := hs lock h1
  obtain ⟨y, hyy⟩ : ∃ y, bs.getD lock 0 = y := ⟨_, rfl⟩
  rw [hyy] at hy
  obtain ⟨y0, y1⟩ := hy
  have HY := hid hyy
  have w0 : 0 ≤ who := h0.1
  have w1 : who ≤ 15 := by omega
  have hk5 : (lock : Int) < 5 := by omega
  clear h hl hr eh hs hyy h0
  go_enter Try.func8, Try.ntmps8
  go_wp2_with (go_at_call 23; refine (rright_any _ _ _).mono ?_; rintro e w' ⟨rfl, rfl⟩; rw [d1.out])
  refine (rheld_own p bs who _ HL.out H.out).mono ?_; rintro e w2 ⟨A, n, c, rfl, hn5, hi, hb, hA⟩
  rw [EH.out] at hi
  have HI := hid hi
  have HB := hid hb
  have HN := hid hi.1
  clear hi hb hA
  have H1 := hid (H.out.other (HB.out.block p hp))
  have hc := H1.out.cell lock h1
  rw [up_get HL.out lock h1, HY.out] at hc
  have hf := H1.out.free lock
  rcases hlast.out with ⟨hnil, hnone⟩ | ⟨m, j, hm, hmw, hlen, hget, hmax⟩
  · have n0 : n = 0 := by have := HN.out; rw [hnil] at this; simpa using this.symm
    subst n0
    have ha := hid (above_no (bs := bs) (who := who) (lock := lock) (fun i hi _ => hnone i hi))
    clear hnil hnone
    by_cases he : y = -1
    · have hb1 : (y + 1 != 0) = false := by simp; omega
      have e : tryE bs who lock = 0 := by unfold tryE; rw [if_neg (fun h => h R.out), if_neg (by rw [Int.toNat_natCast, ha.out]; decide), if_neg (fun h => h (by rw [Int.toNat_natCast, HY.out]; exact he))]
      have E := hid e
      clear he e
      go_wp2_with fail
      go_ret
      refine ⟨by rw [E.out]; rfl, ?_, (Only.of_below HB.out).trans (Only.set _ _ _ _)⟩
      unfold tryB
      rw [E.out, if_pos rfl, up_set, Int.toNat_natCast]
      exact H1.out.set lock (who + 1)
    · have hb1 : (y + 1 != 0) = true := by simp; omega
      have e : tryE bs who lock = 8 := by unfold tryE; rw [if_neg (fun h => h R.out), if_neg (by rw [Int.toNat_natCast, ha.out]; decide), if_pos (by rw [Int.toNat_natCast, HY.out]; exact he)]
      have E := hid e
      clear he e
      go_wp2_with fail
      go_ret
      refine ⟨by rw [E.out]; rfl, ?_, Only.of_below HB.out⟩
      unfold tryB
      rw [E.out, if_neg (by decide)]
      exact H1.out
  · have nj : n = j + 1 := by have := HN.out; omega
    subst nj
    obtain ⟨b, off, hAe, hbl, hcc⟩ : ∃ b off, A = some ⟨b, off, none⟩ ∧ b < w2.heap.size ∧ ∀ i, i < j + 1 → w2.cell? ⟨b, off + i, none⟩ = some (.int .i64 ((heldTo bs who 5).getD i 0)) := by
      rcases HI.out with ⟨_, h0 | h⟩
      · omega
      · exact h
    subst hAe
    have ca := hcc j (by omega)
    rw [hget] at ca
    have HMAX := hid hmax
    have HMW := hid hmw
    clear hcc hmax hget hlen hmw
    by_cases hml : lock ≤ m
    · have ha := above_yes (bs := bs) (who := who) (lock := lock) hm hml HMW.out
      have e : tryE bs who lock = 5 := by unfold tryE; rw [if_neg (fun h => h R.out), if_pos (by rw [Int.toNat_natCast]; exact ha)]
      have E := hid e
      clear ha e
      have hd : decide ((lock : Int) ≤ (m : Int)) = true := by simp; omega
      go_wp2_with fail
      go_ret
      refine ⟨by rw [E.out]; rfl, ?_, Only.of_below HB.out⟩
      unfold tryB
      rw [E.out, if_neg (by decide)]
      exact H1.out
    · have ha := hid (above_no (bs := bs) (who := who) (lock := lock) (fun i hi hl hw => by have := HMAX.out i hi hw; omega))
      have hd : decide ((lock : Int) ≤ (m : Int)) = false := by simp; omega
      by_cases he : y = -1
      · have hb1 : (y + 1 != 0) = false := by simp; omega
        have e : tryE bs who lock = 0 := by unfold tryE; rw [if_neg (fun h => h R.out), if_neg (by rw [Int.toNat_natCast, ha.out]; decide), if_neg (fun h => h (by rw [Int.toNat_natCast, HY.out]; exact he))]
        have E := hid e
        clear he e
        go_wp2_with fail
        go_ret
        refine ⟨by rw [E.out]; rfl, ?_, (Only.of_below HB.out).trans (Only.set _ _ _ _)⟩
        unfold tryB
        rw [E.out, if_pos rfl, up_set, Int.toNat_natCast]
        exact H1.out.set lock (who + 1)
      · have hb1 : (y + 1 != 0) = true := by simp; omega
        have e : tryE bs who lock = 8 := by unfold tryE; rw [if_neg (fun h => h R.out), if_neg (by rw [Int.toNat_natCast, ha.out]; decide), if_pos (by rw [Int.toNat_natCast, HY.out]; exact he)]
        have E := hid e
        clear he e
        go_wp2_with fail
        go_ret
        refine ⟨by rw [E.out]; rfl, ?_, Only.of_below HB.out⟩
        unfold tryB
        rw [E.out, if_neg (by decide)]
        exact H1.out
theorem rtry_any (p : Nat) (bs : List Int) (who lock : Int) (w : World) (hl : bs.length = 5) (hs : Small bs) (h : Five 28 w p (up bs)) :
    Calls Try.prog 8 #[.pointer (some ⟨p, 0, none⟩), .int .i64 who, .int .i64 lock] w fun e w' => e = .returned (.int .i64 (tryE bs who lock)) ∧ Five 28 w' p (up (tryB bs who lock)) ∧ Only p w w' := by
  by_cases hr : right who lock
  · obtain ⟨n, rfl⟩ := Int.eq_ofNat_of_zero_le hr.2.1
    exact (rtry_right p bs who n w hl hs h hr.1 (by have := hr.2.2; omega)).mono fun e w' h => h
  · refine (rtry_wrong p who lock w hr).mono ?_
    rintro e w' ⟨rfl, rfl⟩
    have e : tryE bs who lock = 1 := by unfold tryE; rw [if_pos hr]
    exact ⟨by rw [e], by unfold tryB; rw [e, if_neg (by decide)]; exact h, Only.refl _ _⟩

theorem up_frees (bs l : List Int) : up (frees bs l) = l.foldl (fun b i => b.set i.toNat 0) (up bs) := by
  unfold frees
  induction l generalizing bs with
  | nil => rfl
  | cons x r ih => simp only [List.foldl_cons]; rw [ih, up_set]; rfl
theorem up_frees_snoc (bs l : List Int) (k : Nat) (hk : k < l.length) : up (frees bs (l.take (k + 1))) = (up (frees bs (l.take k))).set (l.getD k 0).toNat 0 := by
  rw [frees_snoc _ _ _ hk, up_set]; rfl
set_option maxHeartbeats 800000 in
theorem rfreeall_any (p : Nat) (bs : List Int) (who : Int) (w : World) (hl : bs.length = 5) (h : Five 28 w p (up bs)) :
    Calls Try.prog 12 #[.pointer (some ⟨p, 0, none⟩), .int .i64 who] w fun e w' => e = .returned (.int .i64 ((heldL bs who).length : Nat)) ∧ Five 28 w' p (up (frees bs (heldL bs who))) ∧ Only p w w' := by
  have H := hid h
  have HL := hid hl
  have hp := h.lt
  clear h hl
  go_enter Try.func12, Try.ntmps12
  go_wp2_with fail
  refine (rheld_own p bs who _ HL.out H.out).mono ?_; rintro e w1 ⟨A, n, c, rfl, hn5, hi, hb, hA⟩
  have HI := hid hi
  have HB := hid hb
  have HA := hid hA
  have HN := hid hi.1
  clear hi hb hA
  have H1 := hid (H.out.other (HB.out.block p hp))
  go_wp2_with fail
  go_loopw [6] (fun i wr => ∃ k : Nat, k ≤ n ∧ i = .int .i64 k ∧ Five 28 wr p (up (frees bs ((heldL bs who).take k))) ∧ Only p w1 wr) (fun i _ => n - (intOf i).toNat)
  case atStart => exact ⟨0, by omega, rfl, by simpa [frees] using H1.out, Only.refl _ _⟩
  case round =>
    obtain ⟨k, hk, rfl, hf, ho⟩ := hrel
    have F := hid hf
    have O := hid ho
    clear hf ho
    by_cases hlt : k < n
    · have hi := HI.out.only O.out (fun ad h h' => by have := HA.out ad h h'; omega)
      obtain ⟨b, off, hAe, hbl, hc⟩ : ∃ b off, A = some ⟨b, off, none⟩ ∧ b < wr.heap.size ∧ ∀ i, i < n → wr.cell? ⟨b, off + i, none⟩ = some (.int .i64 ((heldL bs who).getD i 0)) := by
        rcases hi with ⟨_, h0 | h⟩
        · omega
        · exact h
      clear hi
      subst hAe
      have ha := hc k hlt
      clear hc
      obtain ⟨x, hx5, hx⟩ := heldL_lt bs who k (by rw [HN.out]; exact hlt)
      rw [hx] at ha
      have HX := hid hx
      clear hx
      have hcx := F.out.cell x hx5
      obtain ⟨y, hy⟩ : ∃ y, (up (frees bs ((heldL bs who).take k))).getD x 0 = y := ⟨_, rfl⟩
      rw [hy] at hcx
      clear hy
      have hfx := F.out.free x
      have hi0 : (k : Int) < (n : Int) := by omega
      have hx6 : (x : Int) < 5 := by omega
      go_wp2_with fail
      go_region
      all_goals go_wp2_with fail
      all_goals go_roundw
      case rel =>
        refine ⟨k + 1, by omega, by go_num, ?_, O.out.trans ((Only.set p x wr _).trans ⟨rfl, rfl, rfl, Nat.le_refl _, fun _ _ _ => rfl⟩)⟩
        rw [up_frees_snoc _ _ _ (by rw [HN.out]; exact hlt), HX.out, Int.toNat_natCast]
        exact (F.out.set x 0).drewN 1
      case measure => simp [intOf]; omega
    · obtain rfl : k = n := by omega
      go_wp2_with fail
      go_ret
      have e : (heldL bs who).take k = heldL bs who := List.take_of_length_le (by rw [HN.out]; exact Nat.le_refl _)
      have F' := F.out
      rw [e] at F'
      exact ⟨by rw [HN.out]; rfl, F', (Only.of_below HB.out).trans O.out⟩

theorem rholder_any (p : Nat) (bs : List Int) (lock : Int) (w : World) (hl : bs.length = 5) (hs : Small bs) (h : Five 28 w p (up bs)) :
    Calls Try.prog 14 #[.pointer (some ⟨p, 0, none⟩), .int .i64 lock] w fun e w' => e = .returned (.int .i64 (holderV bs lock)) ∧ w = w' := by
  by_cases h1 : 0 ≤ lock
  · by_cases h2 : lock ≤ 4
    · have e : holderV bs lock = bs.getD lock.toNat 0 := by unfold holderV; rw [if_pos ⟨h1, by omega⟩]
      rw [e]
      obtain ⟨n, rfl⟩ := Int.eq_ofNat_of_zero_le h1
      have hn : n < 5 := by omega
      have hc := h.cell n hn
      rw [up_get hl n hn] at hc
      have hy := hs n hn
      rw [Int.toNat_natCast]
      generalize bs.getD n 0 = y at *
      obtain ⟨y0, y1⟩ := hy
      clear hs h
      have hn5 : (n : Int) < 5 := by omega
      go_enter Try.func14, Try.ntmps14
      go_wp2
      go_ret
      exact ⟨congrArg (fun z => Ending.returned (.int .i64 z)) (by omega), rfl⟩
    · have e : holderV bs lock = -1 := by unfold holderV; rw [if_neg (by omega)]
      rw [e]
      clear hs h
      go_enter Try.func14, Try.ntmps14
      go_wp2
      go_ret
      exact ⟨rfl, rfl⟩
  · have e : holderV bs lock = -1 := by unfold holderV; rw [if_neg (by omega)]
    rw [e]
    clear hs h
    go_enter Try.func14, Try.ntmps14
    go_wp2
    go_ret
    exact ⟨rfl, rfl⟩

theorem rfree_any (p : Nat) (bs : List Int) (who lock : Int) (w : World) (hl : bs.length = 5) (hs : Small bs) (h : Five 28 w p (up bs)) :
    Calls Try.prog 10 #[.pointer (some ⟨p, 0, none⟩), .int .i64 who, .int .i64 lock] w fun e w' => e = .returned (.int .i64 (freeE bs who lock)) ∧ Five 28 w' p (up (freeB bs who lock)) ∧ Only p w w' := by
  by_cases hr : right who lock
  · have d1 := hid (decide_eq_true hr)
    have R := hid hr
    obtain ⟨x, rfl⟩ := Int.eq_ofNat_of_zero_le hr.2.1
    have hx5 : x < 5 := by have := hr.2.2; omega
    have hx6 : (x : Int) < 5 := by omega
    have w0 : 0 ≤ who := hr.1.1
    have w1 : who ≤ 15 := by have := hr.1.2; omega
    have hc := h.cell x hx5
    rw [up_get hl x hx5] at hc
    have hf := h.free x
    have H := hid h
    obtain ⟨y, hy⟩ : ∃ y, bs.getD x 0 = y := ⟨_, rfl⟩
    have hyy := hs x hx5
    rw [hy] at hc hyy
    obtain ⟨y0, y1⟩ := hyy
    have HY := hid hy
    clear hy h hr hs hl
    by_cases he : y = who
    · have hb1 : (y + 1 != who + 1) = false := by simp [he]
      have HE := hid he
      clear he
      go_enter Try.func10, Try.ntmps10
      go_wp2_with (go_at_call 23; refine (rright_any _ _ _).mono ?_; rintro e w' ⟨rfl, rfl⟩; rw [d1.out])
      go_ret
      have e : freeE bs who x = 0 := by unfold freeE; rw [if_neg (fun h => h R.out), if_neg (fun h => h (by rw [Int.toNat_natCast, HY.out]; exact HE.out))]
      exact ⟨by rw [e]; rfl, by unfold freeB; rw [e, if_pos rfl, Int.toNat_natCast, up_set]; exact H.out.set x 0, Only.set _ _ _ _⟩
    · have hb1 : (y + 1 != who + 1) = true := by simp; omega
      have HE := hid he
      clear he
      go_enter Try.func10, Try.ntmps10
      go_wp2_with (go_at_call 23; refine (rright_any _ _ _).mono ?_; rintro e w' ⟨rfl, rfl⟩; rw [d1.out])
      go_ret
      have e : freeE bs who x = 3 := by unfold freeE; rw [if_neg (fun h => h R.out), if_pos (fun h => HE.out (by rw [← HY.out]; simpa using h))]
      exact ⟨by rw [e]; rfl, by unfold freeB; rw [e, if_neg (by decide)]; exact H.out, Only.refl _ _⟩
  · have d1 := hid (decide_eq_false hr)
    have e : freeE bs who lock = 1 := by unfold freeE; rw [if_pos hr]
    have E := hid e
    have H := hid h
    clear hr h hs e
    go_enter Try.func10, Try.ntmps10
    go_wp2_with (go_at_call 23; refine (rright_any _ _ _).mono ?_; rintro e w' ⟨rfl, rfl⟩; rw [d1.out])
    go_ret
    exact ⟨by rw [E.out]; rfl, by unfold freeB; rw [E.out, if_neg (by decide)]; exact H.out, Only.refl _ _⟩
end Go.Proofs.Ytpemlpahpbpbeaa.Lk
