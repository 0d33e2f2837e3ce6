/- Locks: Free and FreeAll. Conditions: those that each contract names. -/
import Derived.Test.YtpemlpahpbpbeaaTry
namespace Go.Proofs.Ytpemlpahpbpbeaa.Lk
open Go.RowKit
set_option linter.unusedVariables false
set_option linter.unusedSimpArgs false
theorem held_own (p : Nat) (bs : List Int) (who : Int) (w : World) (h : Five 48 w p bs) :
    Calls Try.prog 16 #[.pointer (some ⟨p, 0, none⟩), .int .i64 who] w fun e w' => ∃ A n c, e = .returned (.slice A n c) ∧ n ≤ 5 ∧ IsInts w' A n (heldL bs who) ∧ Below w.heap.size w w' ∧ (∀ ad, A = some ad → n ≠ 0 → w.heap.size ≤ ad.block) := by
  by_cases hw : 0 ≤ who ∧ who < 16
  · refine (held_person p bs who w h hw.1 hw.2).mono ?_
    rintro e w' ⟨A, n, c, rfl, hn, ho, hb⟩
    have e : heldL bs who = heldTo bs who 5 := by unfold heldL; rw [if_pos hw]
    have := heldTo_le bs who 5
    refine ⟨A, n, c, rfl, by omega, by rw [e]; exact own_ints hn ho, hb, ?_⟩
    intro ad had hn0
    obtain ⟨_, h2 | ⟨g, cap, cur, hv, hbg, _⟩⟩ := ho
    · exact absurd h2.2 hn0
    · cases hv; cases had; exact hbg
  · refine (held_nobody p bs who w h hw).mono ?_
    rintro e w' ⟨rfl, hb⟩
    have e : heldL bs who = [] := by unfold heldL; rw [if_neg hw]
    exact ⟨none, 0, 0, rfl, by omega, by rw [e]; exact IsInts.nil _, hb, fun _ h => by cases h⟩

theorem heldL_lt (bs : List Int) (who : Int) : ∀ i, i < (heldL bs who).length → ∃ k : Nat, k < 5 ∧ (heldL bs who).getD i 0 = k := by
  intro i hi
  have hm : (heldL bs who)[i] ∈ heldL bs who := List.getElem_mem hi
  have e : (heldL bs who).getD i 0 = (heldL bs who)[i] := by simp [hi]
  rw [e]
  generalize (heldL bs who)[i] = x at hm
  unfold heldL at hm
  split at hm
  · unfold heldTo at hm
    rw [List.mem_map] at hm
    obtain ⟨k, hk, rfl⟩ := hm
    have := (List.mem_filter.1 hk).1
    exact ⟨k, by simpa using this, rfl⟩
  · simp at hm
/-- Those locks are free. -/
def frees (bs : List Int) (l : List Int) : List Int := l.foldl (fun b i => b.set i.toNat (-1)) bs
theorem frees_len (bs l : List Int) : (frees bs l).length = bs.length := by
  unfold frees
  induction l generalizing bs with
  | nil => rfl
  | cons x r ih => simp [ih]
theorem frees_snoc (bs l : List Int) (k : Nat) (hk : k < l.length) : frees bs (l.take (k + 1)) = (frees bs (l.take k)).set (l.getD k 0).toNat (-1) := by
  unfold frees
  rw [List.take_succ_eq_append_getElem hk, List.foldl_append]
  simp [hk]

theorem IsInts.only {w w' : World} {p n : Nat} {A : Option Addr} {zs : List Int} (h : IsInts w A n zs) (ho : Only p w w') (hne : ∀ ad, A = some ad → n ≠ 0 → ad.block ≠ p) : IsInts w' A n zs := by
  obtain ⟨h1, h2⟩ := h
  refine ⟨h1, ?_⟩
  rcases h2 with h2 | ⟨b, off, h3, h4, h5⟩
  · exact .inl h2
  · by_cases hn : n = 0
    · exact .inl hn
    · refine .inr ⟨b, off, h3, Nat.lt_of_lt_of_le h4 ho.size, fun i hi => ?_⟩
      rw [← h5 i hi]
      exact World.cell?_of_block (w := w) (ho.block b h4 (hne _ h3 hn))

set_option maxHeartbeats 800000 in
theorem freeall_any (p : Nat) (bs : List Int) (who : Int) (w : World) (h : Five 48 w p bs) :
    Calls Try.prog 11 #[.pointer (some ⟨p, 0, none⟩), .int .i64 who] w fun e w' => e = .returned (.int .i64 ((heldL bs who).length : Nat)) ∧ Five 48 w' p (frees bs (heldL bs who)) ∧ Only p w w' := by
  have H := hid h
  have hp := h.lt
  clear h
  go_enter Try.func11, Try.ntmps11
  go_wp2_with fail
  refine (held_own p bs who _ H.out).mono ?_; rintro e w1 ⟨A, n, c, rfl, hn5, hi, hb, hA⟩
  have HI := hid hi
  have HB := hid hb
  have HA := hid hA
  have HN := hid hi.1
  clear hi hb hA
  have H1 := hid (H.out.other (HB.out.block p hp))
  go_wp2_with fail
  go_loopw [13] (fun i wr => ∃ k : Nat, k ≤ n ∧ i = .int .i64 k ∧ Five 48 wr p (frees bs ((heldL bs who).take k)) ∧ Only p w1 wr) (fun i _ => n - (intOf i).toNat)
  case atStart => exact ⟨0, by omega, rfl, by simpa [frees] using H1.out, Only.refl _ _⟩
  case round =>
    obtain ⟨k, hk, rfl, hf, ho⟩ := hrel
    have F := hid hf
    have O := hid ho
    clear hf ho
    by_cases hlt : k < n
    · have hi := HI.out.only O.out (fun ad h h' => by have := HA.out ad h h'; omega)
      obtain ⟨b, off, hAe, hbl, hc⟩ : ∃ b off, A = some ⟨b, off, none⟩ ∧ b < wr.heap.size ∧ ∀ i, i < n → wr.cell? ⟨b, off + i, none⟩ = some (.int .i64 ((heldL bs who).getD i 0)) := by
        rcases hi with ⟨_, h0 | h⟩
        · omega
        · exact h
      clear hi
      subst hAe
      have ha := hc k hlt
      clear hc
      obtain ⟨x, hx5, hx⟩ := heldL_lt bs who k (by rw [HN.out]; exact hlt)
      rw [hx] at ha
      have HX := hid hx
      clear hx
      have hcx := F.out.cell x hx5
      have hfx := F.out.free x
      have hi0 : (k : Int) < (n : Int) := by omega
      have hx6 : (x : Int) < 5 := by omega
      go_wp2_with fail
      go_roundw
      case rel =>
        refine ⟨k + 1, by omega, by go_num, ?_, O.out.trans (Only.set _ _ _ _)⟩
        rw [frees_snoc _ _ _ (by rw [HN.out]; exact hlt), HX.out, Int.toNat_natCast]
        exact F.out.set x (-1)
      case measure => simp [intOf]; omega
    · obtain rfl : k = n := by omega
      go_wp2_with fail
      go_ret
      have e : (heldL bs who).take k = heldL bs who := List.take_of_length_le (by rw [HN.out]; exact Nat.le_refl _)
      have F' := F.out
      rw [e] at F'
      exact ⟨by rw [HN.out]; rfl, F', (Only.of_below HB.out).trans O.out⟩

theorem free_any (p : Nat) (bs : List Int) (who lock : Int) (w : World) (h : Five 48 w p bs) :
    Calls Try.prog 9 #[.pointer (some ⟨p, 0, none⟩), .int .i64 who, .int .i64 lock] w fun e w' => e = .returned (.int .i64 (freeE bs who lock)) ∧ Five 48 w' p (freeB bs who lock) ∧ Only p w w' := by
  by_cases hr : right who lock
  · obtain ⟨hw, hl⟩ := hr
    have d1 := hid (decide_eq_true hw)
    have d2 := hid (decide_eq_true hl)
    obtain ⟨x, rfl⟩ := Int.eq_ofNat_of_zero_le hl.1
    have hx5 : x < 5 := by omega
    have hx6 : (x : Int) < 5 := by omega
    have hc := h.cell x hx5
    have hf := h.free x
    have H := hid h
    have HR := hid (show right who x from ⟨hw, hl⟩)
    clear h hw hl
    obtain ⟨y, hy⟩ : ∃ y, bs.getD x 0 = y := ⟨_, rfl⟩
    rw [hy] at hc
    have HY := hid hy
    clear hy
    by_cases he : y = who
    · have hb1 : (y != who) = false := by simp [he]
      have HE := hid he
      clear he
      go_enter Try.func9, Try.ntmps9
      go_wp2_with (first
        | (go_at_call 21; refine (person_any _ _).mono ?_; rintro e w' ⟨rfl, rfl⟩; rw [d1.out])
        | (go_at_call 22; refine (there_any _ _).mono ?_; rintro e w' ⟨rfl, rfl⟩; rw [d2.out]))
      go_ret
      have e : freeE bs who x = 0 := by unfold freeE; rw [if_neg (fun h => h HR.out), if_neg (fun h => h (by rw [Int.toNat_natCast, HY.out]; exact HE.out))]
      exact ⟨by rw [e]; rfl, by unfold freeB; rw [e, if_pos rfl, Int.toNat_natCast]; exact H.out.set x (-1), Only.set _ _ _ _⟩
    · have hb1 : (y != who) = true := by simp [he]
      have HE := hid he
      clear he
      go_enter Try.func9, Try.ntmps9
      go_wp2_with (first
        | (go_at_call 21; refine (person_any _ _).mono ?_; rintro e w' ⟨rfl, rfl⟩; rw [d1.out])
        | (go_at_call 22; refine (there_any _ _).mono ?_; rintro e w' ⟨rfl, rfl⟩; rw [d2.out]))
      go_ret
      have e : freeE bs who x = 3 := by unfold freeE; rw [if_neg (fun h => h HR.out), if_pos (fun h => HE.out (by rw [← HY.out]; simpa using h))]
      exact ⟨by rw [e]; rfl, by unfold freeB; rw [e, if_neg (by decide)]; exact H.out, Only.refl _ _⟩
  · have H := hid h
    clear h
    have e : freeE bs who lock = 1 := by unfold freeE; rw [if_pos hr]
    have E := hid e
    clear e
    by_cases h1 : 0 ≤ who ∧ who < 16
    · have h2 : ¬ (0 ≤ lock ∧ lock < 5) := fun h2 => hr ⟨h1, h2⟩
      have d1 := hid (decide_eq_true h1)
      have d2 := hid (decide_eq_false h2)
      clear hr h1 h2
      go_enter Try.func9, Try.ntmps9
      go_wp2_with (first
            | (go_at_call 21; refine (person_any _ _).mono ?_; rintro e w' ⟨rfl, rfl⟩; rw [d1.out])
            | (go_at_call 22; refine (there_any _ _).mono ?_; rintro e w' ⟨rfl, rfl⟩; rw [d2.out]))
      go_ret
      exact ⟨by rw [E.out]; rfl, by unfold freeB; rw [E.out, if_neg (by decide)]; exact H.out, Only.refl _ _⟩
    · have d1 := hid (decide_eq_false h1)
      clear hr h1
      go_enter Try.func9, Try.ntmps9
      go_wp2_with (go_at_call 21; refine (person_any _ _).mono ?_; rintro e w' ⟨rfl, rfl⟩; rw [d1.out])
      go_ret
      exact ⟨by rw [E.out]; rfl, by unfold freeB; rw [E.out, if_neg (by decide)]; exact H.out, Only.refl _ _⟩
end Go.Proofs.Ytpemlpahpbpbeaa.Lk
