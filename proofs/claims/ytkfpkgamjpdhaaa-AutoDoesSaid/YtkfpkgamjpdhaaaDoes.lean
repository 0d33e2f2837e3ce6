/- AutoDoes, walked. Conditions: those that the contract names. -/
import Derived.Test.YtkfpkgamjpdhaaaTwo
namespace Go.Proofs.Ytkfpkgamjpdhaaa.Au
open Go.RowKit
set_option linter.unusedVariables false
set_option linter.unusedSimpArgs false
set_option maxRecDepth 100000 in
set_option maxHeartbeats 4000000 in
theorem does_law (n0 : Int) (A : Option Addr) (n c : Nat) (B : Option Addr) (bn bc : Nat) (w : World) (hl : IsRows w A n) (hn : n ≤ 9223372036854775807) (hB : IsBools w B bn) (hbn : bn ≤ 9223372036854775807) :
    Calls Try.prog 3 #[.int .i64 n0, .slice A n c, .slice B bn bc] w fun e w' => e = .returned (.bool true) ∧ Below w.heap.size w w' := by
  have HL := hid hl
  have HB := hid hB
  clear hl hB
  by_cases hr : n0 < 1 ∨ 8 < n0
  · go_enter Try.func3, Try.ntmps3
    go_wp2_with fail
    refine (new_bad n0 _ hr).mono ?_
    rintro e w' ⟨rfl, rfl⟩
    go_wp2_with fail
    refine (rnew_bad n0 _ hr).mono ?_
    rintro e w' ⟨rfl, rfl⟩
    clear hr
    go_wp2_with fail
    go_ret
    exact ⟨rfl, Below.refl _ _⟩
  · obtain ⟨cl, rfl⟩ : ∃ cl : Nat, n0 = cl := ⟨n0.toNat, by omega⟩
    have hcl0 : 1 ≤ cl := by omega
    have hcl8 : cl ≤ 8 := by omega
    clear hr
    go_enter Try.func3, Try.ntmps3
    go_wp2_with fail
    refine (new_ok cl _ hcl0 hcl8).mono ?_
    rintro e w1 ⟨rfl, hs1, hb1⟩
    have S1 := hid (SawS.new hs1)
    have B1 := hid hb1
    have hp1 : w.heap.size < w1.heap.size := S1.out.lt
    clear hs1 hb1
    go_wp2_with fail
    refine (rnew_ok cl _ hcl0 hcl8).mono ?_
    rintro e w2 ⟨rfl, hr2, hb2⟩
    have hq2 : w1.heap.size < w2.heap.size := (hr2 (w1.heap.size + 1) (by omega)).qlt
    have T2 := hid (show Two w w.heap.size w1.heap.size w2.heap.size cl [] none [] (.slice none 0 0) w2 from ⟨S1.out.below hb2, hr2 _ hq2, fun ad e => (by cases e), fun ad e => (by cases e), hp1, Nat.le_refl _, B1.out.trans (hb2.mono (by omega)), Nat.le_refl _⟩)
    clear hr2 hb2
    go_wp2_with fail
    go_loopw [11] (fun iv wr => ∃ (k : Nat) (vws : List (List Vw)) (S : Option Addr) (L : List (Value × List Vw)) (Wv : Value), k ≤ n ∧ k ≤ 40 ∧ iv = .int .i64 k ∧ Two w w.heap.size w1.heap.size w2.heap.size cl vws S L Wv wr ∧ L.map (·.2) = vws ∧ L.length ≤ 3) (fun iv _ => n - (intOf iv).toNat)
    case atStart =>
      exact ⟨0, [], none, [], _, by omega, by omega, rfl, T2.out, rfl, by simp⟩
    case round =>
      obtain ⟨k, vws, S, L, Wv, hk, hk40, rfl, hT, hLv, hL3⟩ := hrel
      have T := hid hT
      have HLV := hid hLv
      clear hT hLv
      by_cases hlt : k < n
      · by_cases h3 : k < 40
        · obtain ⟨b, off, hA, hbl, hc⟩ : ∃ b off, A = some ⟨b, off, none⟩ ∧ b < w.heap.size ∧ ∀ i, i < n → ∃ A' n' c' vs, w.cell? ⟨b, off + i, none⟩ = some (.slice A' n' c') ∧ IsViews w A' n' vs ∧ n' ≤ 9223372036854775807 := by
            rcases HL.out with h0 | h
            · omega
            · exact h
          subst hA
          obtain ⟨A', n', c', vs, hcell, hvs, hn'⟩ := hc k hlt
          obtain rfl := hvs.1
          have q := (T.out.below.cell (p := ⟨b, off + k, none⟩) hbl).trans hcell
          have Q := hid hcell
          have Q0 := hid q
          have VV := hid hvs
          have hkI : (k : Int) < 40 := by omega
          clear hc hcell hvs
          by_cases h100 : vs.length ≤ 100
          · have g1 : decide (100 < (vs.length : Int)) = false := by simp; omega
            have hm : vws.length = L.length := by rw [← HLV.out]; simp
            have HM := hid hm
            clear hm
            obtain ⟨A1, cap1, hWv⟩ := T.out.ref.form
            have VW := hid (show ∀ w', Below w.heap.size w w' → IsViews w' A' vs.length vs from fun w' h => VV.out.below h)
            have d1 := T.out.ref.c1
            rw [hWv] at d1
            have D1 := hid d1
            clear d1
            go_upto_region 10 with fail
            go_cut [89] (fun bv wx => bv = .bool false ∧ ∃ vws S L Wv, Two w w.heap.size w1.heap.size w2.heap.size cl vws S L Wv wx ∧ L.map (·.2) = vws ∧ L.length ≤ 3)
            case first =>
              by_cases hcl : vs.length = cl
              · subst hcl
                by_cases hok : vs.all okV = true
                · have HOK := hid hok
                  clear hok
                  refine wp_region_held_drew (S := fun w' => w'.cell? ⟨b, off + k, none⟩ = some (.slice A' vs.length c')) (by kernel_rfl) Q0.out (fun hHeld => ?_)
                  refine wpAnyH_take (i := 0) (v := ?_) (by simp; rfl) (by kernel_rfl) (by kernel_rfl) (by kernel_rfl) (by intro _ _ _ h; exact h) (Or.inl ⟨by rfl, ?_⟩) (by assumption) ?_
                  rotate_left
                  · intro w hSw; (try dsimp only at hSw); go_simp; try with_reducible rfl
                  try simp only [Act.put, List.setIfInBounds_toArray, List.set_cons_zero, List.set_cons_succ]
                  refine wpAnyH_take (i := 1) (v := ?_) (by simp; rfl) (by kernel_rfl) (by kernel_rfl) (by kernel_rfl) (by intro _ _ _ h; exact h) (Or.inl ⟨by rfl, ?_⟩) (by assumption) ?_
                  rotate_left
                  · intro w hSw; (try dsimp only at hSw); go_simp; try with_reducible rfl
                  try simp only [Act.put, List.setIfInBounds_toArray, List.set_cons_zero, List.set_cons_succ]
                  refine wpAnyH_take (i := 2) (v := ?_) (by simp; rfl) (by kernel_rfl) (by kernel_rfl) (by kernel_rfl) (by intro _ _ _ h; exact h) (Or.inl ⟨by rfl, ?_⟩) (by assumption) ?_
                  rotate_left
                  · intro w hSw; (try dsimp only at hSw); go_simp; try with_reducible rfl
                  try simp only [Act.put, List.setIfInBounds_toArray, List.set_cons_zero, List.set_cons_succ]
                  refine wpAnyH_take (i := 3) (v := ?_) (by simp; rfl) (by kernel_rfl) (by kernel_rfl) (by kernel_rfl) (by intro _ _ _ h; exact h) (Or.inl ⟨by rfl, ?_⟩) (by assumption) ?_
                  rotate_left
                  · intro w hSw; (try dsimp only at hSw); go_simp; try with_reducible rfl
                  try simp only [Act.put, List.setIfInBounds_toArray, List.set_cons_zero, List.set_cons_succ]
                  refine wpAnyH_take (i := 4) (v := ?_) (by simp; rfl) (by kernel_rfl) (by kernel_rfl) (by kernel_rfl) (by intro _ _ _ h; exact h) (Or.inl ⟨by rfl, ?_⟩) (by assumption) ?_
                  rotate_left
                  · intro w hSw; (try dsimp only at hSw); go_simp; try with_reducible rfl
                  try simp only [Act.put, List.setIfInBounds_toArray, List.set_cons_zero, List.set_cons_succ]
                  refine wpAnyH_take (i := 7) (v := ?_) (by simp; rfl) (by kernel_rfl) (by kernel_rfl) (by kernel_rfl) (by intro _ _ _ h; exact h) (Or.inl ⟨by rfl, ?_⟩) (by assumption) ?_
                  rotate_left
                  · intro w hSw; (try dsimp only at hSw); go_simp; try with_reducible rfl
                  try simp only [Act.put, List.setIfInBounds_toArray, List.set_cons_zero, List.set_cons_succ]
                  refine wpAnyH_take (i := 8) (v := ?_) (by simp; rfl) (by kernel_rfl) (by kernel_rfl) (by kernel_rfl) (by intro _ _ _ h; exact h) (Or.inl ⟨by rfl, ?_⟩) (by assumption) ?_
                  rotate_left
                  · intro w hSw; (try dsimp only at hSw); go_simp; try with_reducible rfl
                  try simp only [Act.put, List.setIfInBounds_toArray, List.set_cons_zero, List.set_cons_succ]
                  refine wpAnyH_take (i := 9) (v := ?_) (by simp; rfl) (by kernel_rfl) (by kernel_rfl) (by kernel_rfl) (by intro _ _ _ h; exact h) (Or.inl ⟨by rfl, ?_⟩) (by assumption) ?_
                  rotate_left
                  · intro w hSw; (try dsimp only at hSw); go_simp; try with_reducible rfl
                  try simp only [Act.put, List.setIfInBounds_toArray, List.set_cons_zero, List.set_cons_succ]
                  refine wpAnyH_take (i := 10) (v := ?_) (by simp; rfl) (by kernel_rfl) (by kernel_rfl) (by kernel_rfl) (by intro _ _ _ h; exact h) (Or.inl ⟨by rfl, ?_⟩) (by assumption) ?_
                  rotate_left
                  · intro w hSw; (try dsimp only at hSw); go_simp; try with_reducible rfl
                  try simp only [Act.put, List.setIfInBounds_toArray, List.set_cons_zero, List.set_cons_succ]
                  refine wpAnyH_take (i := 11) (v := ?_) (by simp; rfl) (by kernel_rfl) (by kernel_rfl) (by kernel_rfl) (by intro _ _ _ h; exact h) (Or.inl ⟨by rfl, ?_⟩) (by assumption) ?_
                  rotate_left
                  · intro w hSw; (try dsimp only at hSw); go_simp; try with_reducible rfl
                  try simp only [Act.put, List.setIfInBounds_toArray, List.set_cons_zero, List.set_cons_succ]
                  refine wpAnyH_ready (rs := [5]) (by kernel_rfl) (by simp) ?_
                  refine AllReadyH.cons (by simp; rfl) (fun K hK => ?_) ?_
                  · go_simp
                    refine (to_t A' vs.length c' vs _ (VW.out _ T.out.below.drew) (by omega)).mono ?_
                    rintro e w6 ⟨v, rfl, ho6, hb6d⟩
                    have hb6 := below_drew hb6d
                    obtain ⟨A6, cap6, rfl, V6'⟩ := ho6.form'
                    have T6 := hid (T.out.under hb6)
                    have V6 := hid V6'
                    have Q6 := hid ((T6.out.below.cell (p := ⟨b, off + k, none⟩) hbl).trans Q.out)
                    clear ho6 hb6d hb6 V6'
                    try dsimp only
                    refine hK.out _ _ Q6.out (fun hHeld => ?_)
                    clear hK K
                    refine wpAnyH_ready (rs := [6]) (by kernel_rfl) (by simp) ?_
                    refine AllReadyH.cons (by simp; rfl) (fun K hK => ?_) ?_
                    · go_simp
                      refine (see_ss _ vs.length vws S _ _ vs _ T6.out.saw V6.out hcl8 HOK.out).mono ?_
                      rintro e w7 ⟨rfl, ⟨S7, hs7, hS7⟩, hp7⟩
                      have T7 := hid (T6.out.see hp7 hs7 hS7)
                      have Q7 := hid ((T7.out.below.cell (p := ⟨b, off + k, none⟩) hbl).trans Q.out)
                      clear hs7 hS7 hp7
                      try dsimp only
                      refine hK.out _ _ Q7.out (fun hHeld => ?_)
                      clear hK K
                      refine wpAnyH_ready (rs := [12]) (by kernel_rfl) (by simp) ?_
                      refine AllReadyH.cons (by simp; rfl) (fun K hK => ?_) ?_
                      · go_simp
                        refine (rsee_ok _ w2.heap.size vs.length L Wv _ _ vs _ T7.out.ref hL3 T7.out.size (VW.out _ T7.out.below) hcl0 hcl8 HOK.out).mono ?_
                        rintro e w8 ⟨rfl, L8, Wv8, hr8, hm8, hl8, hp8, hF8⟩
                        have hT8 := T7.out.rsee hp8 hr8 hF8
                        rw [HLV.out] at hm8
                        obtain ⟨A8, cap8, rfl⟩ := hr8.form
                        have T8 := hid hT8
                        have d8 := hr8.c1
                        have M8 := hid hm8
                        have L8' := hid hl8
                        have N8 := hid (show (last3 (vws ++ [vs])).length = L8.length by rw [← hm8]; simp)
                        have Q8 := hid ((T8.out.below.cell (p := ⟨b, off + k, none⟩) hbl).trans Q.out)
                        clear hr8 hm8 hl8 hp8 hF8 hT8
                        try dsimp only
                        refine hK.out _ _ Q8.out (fun hHeld => ?_)
                        clear hK K
                        refine wpAnyH_take (i := 13) (v := ?_) (by simp; rfl) (by kernel_rfl) (by kernel_rfl) (by kernel_rfl) (by intro _ _ _ h; exact h) (Or.inl ⟨by rfl, ?_⟩) (by assumption) ?_
                        rotate_left
                        · intro w hSw; (try dsimp only at hSw); go_simp; try with_reducible rfl
                        try simp only [Act.put, List.setIfInBounds_toArray, List.set_cons_zero, List.set_cons_succ]
                        refine wpAnyH_take (i := 14) (v := ?_) (by simp; rfl) (by kernel_rfl) (by kernel_rfl) (by kernel_rfl) (by intro _ _ _ h; exact h) (Or.inl ⟨by rfl, ?_⟩) (by assumption) ?_
                        rotate_left
                        · intro w hSw; (try dsimp only at hSw); go_simp; try with_reducible rfl
                        try simp only [Act.put, List.setIfInBounds_toArray, List.set_cons_zero, List.set_cons_succ]
                        refine wpAnyH_take (i := 15) (v := ?_) (by simp; rfl) (by kernel_rfl) (by kernel_rfl) (by kernel_rfl) (by intro _ _ _ h; exact h) (Or.inl ⟨by rfl, ?_⟩) (by assumption) ?_
                        rotate_left
                        · intro w hSw; (try dsimp only at hSw); go_simp; try with_reducible rfl
                        try simp only [Act.put, List.setIfInBounds_toArray, List.set_cons_zero, List.set_cons_succ]
                        refine wpAnyH_take (i := 17) (v := ?_) (by simp; rfl) (by kernel_rfl) (by kernel_rfl) (by kernel_rfl) (by intro _ _ _ h; exact h) (Or.inl ⟨by rfl, ?_⟩) (by assumption) ?_
                        rotate_left
                        · intro w hSw; (try dsimp only at hSw); go_simp; try with_reducible rfl
                        try simp only [Act.put, List.setIfInBounds_toArray, List.set_cons_zero, List.set_cons_succ]
                        refine wpAnyH_take (i := 18) (v := ?_) (by simp; rfl) (by kernel_rfl) (by kernel_rfl) (by kernel_rfl) (by intro _ _ _ h; exact h) (Or.inl ⟨by rfl, ?_⟩) (by assumption) ?_
                        rotate_left
                        · intro w hSw; (try dsimp only at hSw); go_simp; try with_reducible rfl
                        try simp only [Act.put, List.setIfInBounds_toArray, List.set_cons_zero, List.set_cons_succ]
                        refine wpAnyH_take (i := 19) (v := ?_) (by simp; rfl) (by kernel_rfl) (by kernel_rfl) (by kernel_rfl) (by intro _ _ _ h; exact h) (Or.inl ⟨by rfl, ?_⟩) (by assumption) ?_
                        rotate_left
                        · intro w hSw; (try dsimp only at hSw); go_simp; try with_reducible rfl
                        try simp only [Act.put, List.setIfInBounds_toArray, List.set_cons_zero, List.set_cons_succ]
                        refine wpAnyH_ready (rs := [16, 20]) (by kernel_rfl) (by simp) ?_
                        refine AllReadyH.cons (by simp; rfl) (fun K hK => ?_) ?_
                        · go_simp
                          refine (seen_m _ vs.length L8.length (last3 (vws ++ [vs])) S7 _ T8.out.saw N8.out).mono ?_
                          rintro e w' ⟨rfl, rfl⟩
                          try dsimp only
                          refine hK.out _ _ Q8.out (fun hHeld => ?_)
                          clear hK K
                          refine wpAnyH_ready (rs := [20]) (by kernel_rfl) (by simp) ?_
                          refine AllReadyH.cons (by simp; rfl) (fun K hK => ?_) ?_
                          · go_simp
                            refine hK.out _ _ Q8.out (fun hHeld => ?_)
                            clear hK K
                            refine wpAnyH_take (i := 21) (v := ?_) (by simp; rfl) (by kernel_rfl) (by kernel_rfl) (by kernel_rfl) (by intro _ _ _ h; exact h) (Or.inl ⟨by rfl, ?_⟩) (by assumption) ?_
                            rotate_left
                            · intro w hSw; (try dsimp only at hSw); go_simp; try with_reducible rfl
                            try simp only [Act.put, List.setIfInBounds_toArray, List.set_cons_zero, List.set_cons_succ]
                            refine wpAnyH_take (i := 22) (v := ?_) (by simp; rfl) (by kernel_rfl) (by kernel_rfl) (by kernel_rfl) (by intro _ _ _ h; exact h) (Or.inl ⟨by rfl, ?_⟩) (by assumption) ?_
                            rotate_left
                            · intro w hSw; (try dsimp only at hSw); go_simp; try with_reducible rfl
                            try simp only [Act.put, List.setIfInBounds_toArray, List.set_cons_zero, List.set_cons_succ]
                            refine wpAnyH_take (i := 23) (v := ?_) (by simp; rfl) (by kernel_rfl) (by kernel_rfl) (by kernel_rfl) (by intro _ _ _ h; exact h) (Or.inl ⟨by rfl, ?_⟩) (by assumption) ?_
                            rotate_left
                            · intro w hSw; (try dsimp only at hSw); go_simp; try with_reducible rfl
                            try simp only [Act.put, List.setIfInBounds_toArray, List.set_cons_zero, List.set_cons_succ]
                            refine wpAnyH_done (by kernel_rfl) ?_ _
                            (try go_wp2_with fail)
                            go_meet
                            exact ⟨rfl, _, _, _, _, T8.out, M8.out, L8'.out⟩
                          exact AllReadyH.nil
                        refine AllReadyH.cons (by simp; rfl) (fun K hK => ?_) ?_
                        · go_simp
                          refine hK.out _ _ Q8.out (fun hHeld => ?_)
                          clear hK K
                          refine wpAnyH_take (i := 21) (v := ?_) (by simp; rfl) (by kernel_rfl) (by kernel_rfl) (by kernel_rfl) (by intro _ _ _ h; exact h) (Or.inl ⟨by rfl, ?_⟩) (by assumption) ?_
                          rotate_left
                          · intro w hSw; (try dsimp only at hSw); go_simp; try with_reducible rfl
                          try simp only [Act.put, List.setIfInBounds_toArray, List.set_cons_zero, List.set_cons_succ]
                          refine wpAnyH_ready (rs := [16]) (by kernel_rfl) (by simp) ?_
                          refine AllReadyH.cons (by simp; rfl) (fun K hK => ?_) ?_
                          · go_simp
                            refine (seen_m _ vs.length L8.length (last3 (vws ++ [vs])) S7 _ T8.out.saw N8.out).mono ?_
                            rintro e w' ⟨rfl, rfl⟩
                            try dsimp only
                            refine hK.out _ _ Q8.out (fun hHeld => ?_)
                            clear hK K
                            refine wpAnyH_take (i := 22) (v := ?_) (by simp; rfl) (by kernel_rfl) (by kernel_rfl) (by kernel_rfl) (by intro _ _ _ h; exact h) (Or.inl ⟨by rfl, ?_⟩) (by assumption) ?_
                            rotate_left
                            · intro w hSw; (try dsimp only at hSw); go_simp; try with_reducible rfl
                            try simp only [Act.put, List.setIfInBounds_toArray, List.set_cons_zero, List.set_cons_succ]
                            refine wpAnyH_take (i := 23) (v := ?_) (by simp; rfl) (by kernel_rfl) (by kernel_rfl) (by kernel_rfl) (by intro _ _ _ h; exact h) (Or.inl ⟨by rfl, ?_⟩) (by assumption) ?_
                            rotate_left
                            · intro w hSw; (try dsimp only at hSw); go_simp; try with_reducible rfl
                            try simp only [Act.put, List.setIfInBounds_toArray, List.set_cons_zero, List.set_cons_succ]
                            refine wpAnyH_done (by kernel_rfl) ?_ _
                            (try go_wp2_with fail)
                            go_meet
                            exact ⟨rfl, _, _, _, _, T8.out, M8.out, L8'.out⟩
                          exact AllReadyH.nil
                        exact AllReadyH.nil
                      exact AllReadyH.nil
                    exact AllReadyH.nil
                  exact AllReadyH.nil
                · have hok' : vs.all okV = false := by simpa using hok
                  have HOK := hid hok'
                  clear hok hok'
                  go_region_held3 (fun w' => w'.cell? ⟨b, off + k, none⟩ = some (.slice A' vs.length c') ∧ w'.cell? ⟨w1.heap.size, 1, none⟩ = some (.slice A1 L.length cap1)) (first | exact ⟨Q0.out, D1.out⟩ | exact ⟨Q6.out, D6.out⟩ | exact ⟨Q7.out, D7.out⟩)
                    (first
                     | (go_at_call 10; ((with_reducible refine (to_t A' vs.length c' vs _ ?_ ?_).mono ?_)); (focus (exact VW.out _ T.out.below.drew)); (focus omega); rintro e w6 ⟨v, rfl, ho6, hb6d⟩; have hb6 := below_drew hb6d; obtain ⟨A6, cap6, rfl, V6'⟩ := ho6.form'
                        have T6 := hid (T.out.under hb6)
                        have V6 := hid V6'
                        have Q6 := hid ((T6.out.below.cell (p := ⟨b, off + k, none⟩) hbl).trans Q.out)
                        have d6 := T6.out.ref.c1
                        rw [hWv] at d6
                        have D6 := hid d6
                        clear ho6 hb6d hb6 V6' d6)
                     | (go_at_call 9; ((with_reducible refine (see_ss_bad _ vs.length vws S _ _ vs _ ?_ ?_ ?_ HOK.out).mono ?_)); (focus (exact T6.out.saw)); (focus (exact V6.out)); (focus (exact hcl8)); rintro e w7 ⟨rfl, hb7⟩
                        have T7 := hid (T6.out.under hb7)
                        have Q7 := hid ((T7.out.below.cell (p := ⟨b, off + k, none⟩) hbl).trans Q.out)
                        have d7 := T7.out.ref.c1
                        rw [hWv] at d7
                        have D7 := hid d7
                        clear hb7 d7)
                     | (go_at_call 11; ((with_reducible refine (rsee_bad _ w2.heap.size vs.length L Wv _ _ vs _ ?_ ?_ ?_ ?_ ?_ ?_ HOK.out).mono ?_)); (focus (exact T7.out.ref)); (focus (exact hL3)); (focus (exact T7.out.size)); (focus (exact VW.out _ T7.out.below)); (focus (exact hcl0)); (focus (exact hcl8)); rintro e w' ⟨rfl, rfl⟩)
                     | (go_at_call 12; ((with_reducible refine (seen_m _ vs.length L.length vws S _ ?_ HM.out).mono ?_)); (focus (exact T7.out.saw)); rintro e w' ⟨rfl, rfl⟩))
                  all_goals (try go_wp2_with fail)
                  all_goals go_meet
                  all_goals exact ⟨rfl, _, _, _, _, T7.out, HLV.out, hL3⟩
              · have HCL := hid hcl
                clear hcl
                go_region_held3 (fun w' => w'.cell? ⟨b, off + k, none⟩ = some (.slice A' vs.length c') ∧ w'.cell? ⟨w1.heap.size, 1, none⟩ = some (.slice A1 L.length cap1)) (first | exact ⟨Q0.out, D1.out⟩ | exact ⟨Q6.out, D6.out⟩)
                  (first
                   | (go_at_call 10; ((with_reducible refine (to_t A' vs.length c' vs _ ?_ ?_).mono ?_)); (focus (exact VW.out _ T.out.below.drew)); (focus omega); rintro e w6 ⟨v, rfl, ho6, hb6d⟩; have hb6 := below_drew hb6d; obtain ⟨A6, cap6, rfl, V6'⟩ := ho6.form'
                      have T6 := hid (T.out.under hb6)
                      have V6 := hid V6'
                      have Q6 := hid ((T6.out.below.cell (p := ⟨b, off + k, none⟩) hbl).trans Q.out)
                      have d6 := T6.out.ref.c1
                      rw [hWv] at d6
                      have D6 := hid d6
                      clear ho6 hb6d hb6 V6' d6)
                   | (go_at_call 9; ((with_reducible refine (see_ss_other _ cl vws S _ vs.length _ _ ?_ HCL.out).mono ?_)); (focus (exact T6.out.saw)); rintro e w' ⟨rfl, rfl⟩)
                   | (go_at_call 11; ((with_reducible refine (rsee_len _ w2.heap.size cl L Wv _ vs.length _ _ ?_ HCL.out).mono ?_)); (focus (exact T6.out.ref)); rintro e w' ⟨rfl, rfl⟩)
                   | (go_at_call 12; ((with_reducible refine (seen_m _ cl L.length vws S _ ?_ HM.out).mono ?_)); (focus (exact T6.out.saw)); rintro e w' ⟨rfl, rfl⟩))
                all_goals (try go_wp2_with fail)
                all_goals go_meet
                all_goals exact ⟨rfl, _, _, _, _, T6.out, HLV.out, hL3⟩
            case rest =>
              obtain ⟨rfl, vws2, S2, L2, Wv2, hT2, hm2, hl2⟩ := hcut
              have T3 := hid hT2
              have M3 := hid hm2
              clear hT2 hm2 T D1 HM HLV hL3 hWv Q0 q VW VV g1 h100
              by_cases hkb : k < bn
              · obtain ⟨b', off', hB', hbl', hpb⟩ : ∃ b off, B = some ⟨b, off, none⟩ ∧ b < w.heap.size ∧ ∀ i, i < bn → ∃ p : Bool, w.cell? ⟨b, off + i, none⟩ = some (.bool p) := by
                  rcases HB.out with h0 | h
                  · omega
                  · exact h
                subst hB'
                obtain ⟨pb, hpc⟩ := hpb k hkb
                have e1 := (T3.out.below.cell (p := ⟨b', off' + k, none⟩) hbl').trans hpc
                clear hpb hpc
                have hkbI : (k : Int) < bn := by omega
                by_cases hpt : pb = true
                · subst hpt
                  obtain ⟨x, y, ok, hcall⟩ := decide_both T3.out hcl8 hl2 M3.out
                  have HC := hid hcall
                  clear hcall
                  go_wp2_with fail
                  refine HC.out.mono ?_
                  rintro e w5 ⟨rfl, vws5, S5, hT5, hnext⟩
                  have HN := hid (hnext w5 hT5)
                  clear hT5 hnext HC
                  go_wp2_with fail
                  refine HN.out.mono ?_
                  rintro e w6 ⟨rfl, L6, Wv6, hT6, hm6, hl6⟩
                  obtain ⟨A6, cap6, hW6⟩ := hT6.ref.form
                  have d6 := hT6.ref.c1
                  rw [hW6] at d6
                  have T6 := hid hT6
                  have M6 := hid hm6
                  have L6' := hid hl6
                  have N6 := hid (show vws5.length = L6.length by rw [← hm6]; simp)
                  clear hT6 hm6 hl6 hW6 HN
                  go_upto_region 15 with fail
                  go_quiet ((go_at_call 12; exact Calls.quiet_of_same ((seen_m _ cl L6.length vws5 S5 _ (by exact T6.out.saw.drewN _) N6.out).mono fun e w' h => ⟨h.1, h.2.symm⟩)))
                  go_wp2_with fail
                  go_roundw
                  case rel =>
                    exact ⟨k + 1, vws5, S5, L6, Wv6, by omega, by omega, by go_num, T6.out.drewN _, M6.out, L6'.out⟩
                  case measure => simp [intOf]; omega
                · have hpf : pb = false := by simpa using hpt
                  subst hpf
                  clear hpt
                  go_wp2_with fail
                  go_roundw
                  case rel =>
                    exact ⟨k + 1, vws2, S2, L2, Wv2, by omega, by omega, by go_num, T3.out, M3.out, hl2⟩
                  case measure => simp [intOf]; omega
              · go_wp2_with fail
                go_roundw
                case rel =>
                  exact ⟨k + 1, vws2, S2, L2, Wv2, by omega, by omega, by go_num, T3.out, M3.out, hl2⟩
                case measure => simp [intOf]; omega
          · have g1 : decide (100 < (vs.length : Int)) = true := by simp; omega
            clear h100
            go_wp2_with fail
            go_ret
            exact ⟨rfl, T.out.below⟩
        · obtain rfl : k = 40 := by omega
          clear h3 hk40
          go_wp2_with fail
          go_ret
          exact ⟨rfl, T.out.below⟩
      · obtain rfl : k = n := by omega
        clear hlt hk
        go_wp2_with fail
        go_ret
        exact ⟨rfl, T.out.below⟩
end Go.Proofs.Ytkfpkgamjpdhaaa.Au
