/- AutoQuiet, walked. Conditions: those that the contract names. -/
import Derived.Test.YtkfpkgamjpdhaaaQuietPure
import Derived.Test.YtkfpkgamjpdhaaaRowR
import Derived.Test.YtkfpkgamjpdhaaaTo
import Derived.Test.YtkfpkgamjpdhaaaWorks
import Derived.Test.YtkfpkgamjpdhaaaArgV
namespace Go.Proofs.Ytkfpkgamjpdhaaa.Au
open Go.RowKit
set_option linter.unusedVariables false
set_option linter.unusedSimpArgs false
set_option maxRecDepth 100000 in
set_option maxHeartbeats 4000000 in
theorem quiet_law (A : Option Addr) (n c : Nat) (a0 : Int) (pages : Bool) (w : World) (hl : IsRows w A n) (hn : n ≤ 9223372036854775807) :
    Calls Try.prog 6 #[.slice A n c, .int .i64 a0, .bool pages] w fun e w' => e = .returned (.bool true) ∧ Below w.heap.size w w' := by
  have HL := hid hl
  clear hl
  obtain ⟨a', em, a1, a2⟩ := modu a0 3 (by omega) (by omega)
  obtain ⟨a, ha⟩ : ∃ a : Nat, (a : Int) = a' := ⟨a'.toNat, by omega⟩
  subst ha
  have ha3 : a < 3 := by omega
  clear a1 a2
  go_enter Try.func6, Try.ntmps6
  go_wp2_with fail
  refine (works_any _).mono ?_; rintro e w0 ⟨rfl, hb⟩
  have B0 := hid hb
  have hs0 := hb.size
  clear hb
  go_wp2_with fail
  refine (new_saw 2 _ (by omega) (by omega)).mono ?_
  rintro e w1 ⟨rfl, hs, hb⟩
  have S1 := hid (hs w1.heap.size)
  have B1 := hid (B0.out.trans (hb.mono hs0))
  have hs1 := hb.size
  have hp1 := (hs 0).lt
  clear hs hb
  go_wp2_with fail
  go_loopw [9, 10] (fun nv iv wr => ∃ (k : Nat) (vws : List (List Vw)), k ≤ n ∧ k ≤ 3 ∧ nv = .int .i64 k ∧ iv = .int .i64 k ∧ vws.length = k ∧ Saw wr w0.heap.size 2 vws w1.heap.size ∧ Stills pages a vws ∧ Below w.heap.size w wr ∧ w1.heap.size ≤ wr.heap.size) (fun _ iv _ => n - (intOf iv).toNat)
  case atStart =>
    exact ⟨0, [], by omega, by omega, rfl, rfl, rfl, S1.out, fun i hi => absurd hi (by simp), B1.out, Nat.le_refl _⟩
  case round =>
    obtain ⟨k, vws, hk, hk3, rfl, rfl, hkl, hsaw, hst, hb, hlo⟩ := hrel
    have KL := hid hkl
    have SW := hid hsaw
    have ST := hid hst
    have B := hid hb
    have hsz := hb.size
    clear hkl hsaw hst hb
    by_cases hlt : k < n
    · by_cases h3 : k < 3
      · obtain ⟨b, off, hA, hbl, hc⟩ : ∃ b off, A = some ⟨b, off, none⟩ ∧ b < w.heap.size ∧ ∀ i, i < n → ∃ A' n' c' vs, w.cell? ⟨b, off + i, none⟩ = some (.slice A' n' c') ∧ IsViews w A' n' vs ∧ n' ≤ 9223372036854775807 := by
          rcases HL.out with h0 | h
          · omega
          · exact h
        subst hA
        obtain ⟨A', n', c', vs, hcell, hvs, hn'⟩ := hc k hlt
        have q := (B.out.cell (p := ⟨b, off + k, none⟩) hbl).trans hcell
        have VV := hid (hvs.below B.out)
        clear hc hcell hvs
        by_cases h2 : n' = 2
        · subst h2
          have hkI : (k : Int) < 3 := by omega
          have hbr : b < wr.heap.size := by omega
          go_upto_region 11 with (at_builtin; refine wpList_copyR rfl (.tmp 38) (.tmp 42) rfl wr.heap.size rfl (heap_alloc_at _ _) A' 2 c' vs rfl ?views ?few ?pos ?go)
          case views =>
            exact (IsViews.below VV.out ((Below.refl _ _).alloc (Nat.le_refl _) _))
          case few => omega
          case pos => omega
          case go =>
            intro g cap w4 ho4 hg4
            have hb4 := ((Below.refl wr.heap.size wr).alloc (Nat.le_refl _) (.cells #[] 44)).grown hg4 (by simp) (fun j hj => by simp at hj; omega)
            have O4 := hid ho4
            have B4 := hid hb4
            have hz4 := hb4.size
            obtain ⟨lo2, hlo2⟩ : ∃ x, wr.heap.size = x := ⟨_, rfl⟩
            rw [hlo2] at O4 B4 hz4
            have SWF := hid (show ∀ wx, Below lo2 w4 wx → Saw wx w0.heap.size 2 vws w1.heap.size ∧ Below w.heap.size w wx from fun wx hx => ⟨SW.out.below (by rw [hlo2]; exact B4.out.trans hx), B.out.trans ((B4.out.trans hx).mono (by omega))⟩)
            have hg0 := (ho4.lt g rfl).1
            rw [hlo2] at hg0
            have hlow : w.heap.size ≤ lo2 := by omega
            have hlo1 : w1.heap.size ≤ lo2 := by omega
            clear ho4 hg4 hb4 q hbr hlo2
            go_wp2_with fail
            go_loopw [12] (fun cv wi => ∃ (j : Nat) (us : List Vw), j ≤ 2 ∧ cv = .int .i64 j ∧ us.length = 2 ∧ OwnR wi lo2 (.slice (some ⟨g, 0, none⟩) 2 cap) us ∧ (∀ c, c < j → Still pages a k us c) ∧ Below lo2 w4 wi) (fun cv _ => 2 - (intOf cv).toNat)
            case atStart =>
              exact ⟨0, vs, by omega, rfl, VV.out.1, O4.out, fun c hc => absurd hc (by omega), Below.refl _ _⟩
            case round =>
              obtain ⟨j, us, hj, rfl, hul, ho, hst, hb⟩ := hrel
              have UL := hid hul
              have O := hid ho
              have US := hid hst
              have BI := hid hb
              have hszi := hb.size
              have hgi := (ho.lt g rfl).2
              clear hul ho hst hb
              by_cases hj2 : j < 2
              · obtain ⟨⟨x, y, z⟩, hxyz⟩ : ∃ v, us.getD j (0, 0, 0) = v := ⟨_, rfl⟩
                have HV := hid hxyz
                have q0 := O.out.cellAt UL.out (j * 3) (by omega)
                have q1 := O.out.cellAt UL.out (j * 3 + 1) (by omega)
                have hjI : (j : Int) < 2 := by omega
                clear hxyz
                obtain ⟨q00, q01⟩ := q0
                obtain ⟨q10, q11⟩ := q1
                by_cases hpg : pages = true
                · subst hpg
                  go_wp2_with fail
                  go_roundw
                  case rel =>
                    refine ⟨j + 1, us.set j (x, 1, z), by omega, by go_num, by rw [List.length_set]; exact UL.out, O.out.store UL.out (by rw [List.length_set]; exact UL.out) _ _ (canon_set2 us x y z j (by rw [UL.out]; exact hj2) HV.out 1).symm, ?_, BI.out.setCell (p := ⟨g, j * 3 + 1, none⟩) hg0 _⟩
                    intro c hc
                    rw [Still, set_getD us j c _ (by rw [UL.out]; exact hj2)]
                    by_cases e : c = j
                    · rw [if_pos e]; exact ⟨fun _ => rfl, fun h => (by cases h)⟩
                    · rw [if_neg e]; exact US.out c (by omega)
                  case measure => simp [intOf]; omega
                · have hpf : pages = false := by simpa using hpg
                  subst hpf
                  clear hpg
                  by_cases hka : k = a
                  · have k1 : ((k : Int) == a) = true := by simp [hka]
                    have k2 : (k == a) = true := by simp [hka]
                    have k3 : ((k : Int) = a) = True := by simp [hka]
                    clear hka
                    go_wp2_with fail
                    go_roundw
                    case rel =>
                      refine ⟨j + 1, us.set j (0, y, z), by omega, by go_num, by rw [List.length_set]; exact UL.out, O.out.store UL.out (by rw [List.length_set]; exact UL.out) _ _ (canon_set us x y z j (by rw [UL.out]; exact hj2) HV.out 0).symm, ?_, BI.out.setCell (p := ⟨g, j * 3, none⟩) hg0 _⟩
                      intro c hc
                      rw [Still, set_getD us j c _ (by rw [UL.out]; exact hj2)]
                      by_cases e : c = j
                      · rw [if_pos e]; exact ⟨fun h => (by cases h), fun _ _ => rfl⟩
                      · rw [if_neg e]; exact US.out c (by omega)
                    case measure => simp [intOf]; omega
                  · have k1 : ((k : Int) == a) = false := by first | (simp; done) | (simp; omega)
                    have k2 : (k == a) = false := by simp [hka]
                    have HKA := hid hka
                    clear hka
                    go_wp2_with fail
                    go_roundw
                    case rel =>
                      refine ⟨j + 1, us, by omega, by go_num, UL.out, O.out, ?_, BI.out⟩
                      intro c hc
                      by_cases e : c = j
                      · exact ⟨fun h => (by cases h), fun _ h => absurd h HKA.out⟩
                      · exact US.out c (by omega)
                    case measure => simp [intOf]; omega
              · obtain rfl : j = 2 := by omega
                clear hj2 hj
                obtain ⟨s5, b5⟩ := SWF.out wr BI.out
                have S5 := hid s5
                have B5 := hid b5
                clear s5 b5
                have hz5 : w1.heap.size ≤ wr.heap.size := by omega
                go_wp2_with fail
                refine (to_t _ 2 cap us _ ?_ (by omega)).mono ?_
                · exact O.out.views.1
                rintro e w6 ⟨v, rfl, ho6, hb6⟩
                obtain ⟨A6, cap6, rfl, V6'⟩ := ho6.form'
                rw [UL.out] at V6' ⊢
                have V6 := hid V6'
                have S6 := hid (S5.out.below hb6)
                have B6 := hid (B5.out.trans (hb6.mono (by omega)))
                have hz6 := hb6.size
                clear ho6 hb6 V6'
                go_wp2_with fail
                by_cases hok : us.all okV = true
                · have HOK := hid hok
                  clear hok
                  refine (see_saw _ 2 vws w1.heap.size _ _ us _ ?_ ?_ ?_ (by omega) HOK.out).mono ?_
                  · exact S6.out
                  · omega
                  · exact V6.out
                  rintro e w7 ⟨rfl, hs7, hk7⟩
                  rw [last3_snoc vws us (by rw [KL.out]; exact h3)] at hs7
                  have S7 := hid hs7
                  have B7 := hid (Kept.below B6.out hk7 (by have := B0.out.size; omega) (by omega))
                  have hz7 := hk7.size
                  clear hs7 hk7
                  go_wp2_with fail
                  go_roundw
                  case rel =>
                    refine ⟨k + 1, vws ++ [us], by omega, by omega, by go_num, by go_num, by simp [KL.out], S7.out, ST.out.snoc (by rw [KL.out]; exact US.out), B7.out, by omega⟩
                  case measure => simp [intOf]; omega
                · have hok' : us.all okV = false := by simpa using hok
                  have HOK := hid hok'
                  clear hok hok'
                  refine (see_bad _ 2 vws w1.heap.size _ _ us _ ?_ ?_ (by omega) HOK.out).mono ?_
                  · exact S6.out
                  · exact V6.out
                  rintro e w7 ⟨rfl, hb7⟩
                  have B7 := hid (B6.out.trans (hb7.mono (by omega)))
                  clear hb7
                  go_wp2_with fail
                  go_ret
                  exact ⟨rfl, B7.out⟩
        · have n1 : ((n' : Int) == 2) = false := by simp; omega
          have n2 : (n' == 2) = false := by simp [h2]
          clear h2
          go_wp2_with fail
          go_ret
          exact ⟨rfl, B.out⟩
      · obtain rfl : k = 3 := by omega
        clear h3 hk hk3
        go_wp2_with fail
        refine (decide_no _ 2 vws w1.heap.size _ ?_ (by omega) KL.out (ST.out.dec ha3 KL.out)).mono ?_
        · exact SW.out
        rintro e w3 ⟨rfl, hb3⟩
        have S3 := hid (SW.out.below hb3)
        have B3 := hid (B.out.trans (hb3.mono hsz))
        clear hb3
        go_wp2_with fail
        refine (seen_saw _ 2 vws w1.heap.size _ ?_).mono ?_
        · exact S3.out
        rintro e w' ⟨rfl, rfl⟩
        rw [KL.out]
        go_wp2_with fail
        go_ret
        exact ⟨rfl, B3.out⟩
    · obtain rfl : k = n := by omega
      clear hlt hk
      by_cases h3 : k < 3
      · go_wp2_with fail
        refine (decide_less _ 2 vws w1.heap.size _ ?_ (by rw [KL.out]; exact h3)).mono ?_
        · exact SW.out
        rintro e w' ⟨rfl, rfl⟩
        go_wp2_with fail
        refine (seen_saw _ 2 vws w1.heap.size _ ?_).mono ?_
        · exact SW.out
        rintro e w' ⟨rfl, rfl⟩
        rw [KL.out]
        go_wp2_with fail
        go_ret
        exact ⟨rfl, B.out⟩
      · obtain rfl : k = 3 := by omega
        clear h3 hk3
        go_wp2_with fail
        refine (decide_no _ 2 vws w1.heap.size _ ?_ (by omega) KL.out (ST.out.dec ha3 KL.out)).mono ?_
        · exact SW.out
        rintro e w3 ⟨rfl, hb3⟩
        have S3 := hid (SW.out.below hb3)
        have B3 := hid (B.out.trans (hb3.mono hsz))
        clear hb3
        go_wp2_with fail
        refine (seen_saw _ 2 vws w1.heap.size _ ?_).mono ?_
        · exact S3.out
        rintro e w' ⟨rfl, rfl⟩
        rw [KL.out]
        go_wp2_with fail
        go_ret
        exact ⟨rfl, B3.out⟩
end Go.Proofs.Ytkfpkgamjpdhaaa.Au
