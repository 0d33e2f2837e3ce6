/- The reference's See, walked. Conditions: those that the contract names. -/
import Derived.Test.YtkfpkgamjpdhaaaRefSteps
namespace Go.Proofs.Ytkfpkgamjpdhaaa.Au
open Go.RowKit
set_option linter.unusedVariables false
set_option linter.unusedSimpArgs false
theorem copy_facts {w w2 : World} {o : Obj} {q : Nat} {u : Value} (hg : ((w.alloc o).drew).grownBy w2 (some w.heap.size)) (hq : q < w.heap.size) (c1 : w.cell? ⟨q, 1, none⟩ = some u) :
    Below w.heap.size w w2 ∧ w2.cell? ⟨q, 1, none⟩ = some u ∧ w.heap.size < w2.heap.size := by
  have hb := ((Below.refl w.heap.size w).alloc (Nat.le_refl _) o).drew
  have hb2 := hb.grown hg (by simp) (fun k hk => by simp at hk; omega)
  exact ⟨hb2, (hb2.cell (p := ⟨q, 1, none⟩) hq).trans c1, Nat.lt_of_lt_of_le (show w.heap.size < (w.alloc o).drew.heap.size by simp) hg.size⟩
theorem app_facts2 {w w2 w3 : World} {o : Obj} {q : Nat} {u Wv : Value} (hg : (w2.alloc o).grownBy w3 Wv.ownBlock) (hz : w.heap.size < w2.heap.size) (hq : q < w.heap.size) (ne : some q ≠ Wv.ownBlock) (hb : Below w.heap.size w w2) (c1 : w.cell? ⟨q, 1, none⟩ = some u) (f1 : w.frozen? ⟨q, 1, none⟩ = false) :
    w3.cell? ⟨q, 1, none⟩ = some u ∧ w3.frozen? ⟨q, 1, none⟩ = false := by
  have ha := (Below.refl w2.heap.size w2).alloc (Nat.le_refl _) o
  have hq2 : q < w2.heap.size := by omega
  exact ⟨(hg.cell_far ⟨q, 1, none⟩ (Nat.lt_of_lt_of_le hq2 ha.size) ne).trans ((ha.cell (p := ⟨q, 1, none⟩) hq2).trans ((hb.cell (p := ⟨q, 1, none⟩) hq).trans c1)),
    (hg.frozen_far ⟨q, 1, none⟩ (Nat.lt_of_lt_of_le hq2 ha.size) ne).trans ((ha.frozen (p := ⟨q, 1, none⟩) hq2).trans ((hb.frozen (p := ⟨q, 1, none⟩) hq).trans f1))⟩
theorem own_cap' {w : World} {base g cap n m e size : Nat} {xs : List Value} (h : w.ownsRow base e size (.slice (some ⟨g, 0, none⟩) m cap) n xs) : n ≤ cap ∧ cap ≤ maxLen := by
  rcases h.2 with ⟨h', _⟩ | ⟨g', cap', cur, h', hb, hg, hnc, hcm, hcs, htake⟩
  · simp at h'
  · simp only [Value.slice.injEq, Option.some.injEq, Addr.mk.injEq, and_true, true_and] at h'
    obtain ⟨rfl, rfl, rfl⟩ := h'
    exact ⟨hnc, hcm⟩
set_option maxRecDepth 100000 in
set_option maxHeartbeats 4000000 in
theorem rsee_t (q base cl : Nat) (L : List (Value × List Vw)) (Wv : Value) (A : Option Addr) (c : Nat) (vs : List Vw) (w : World) (hst : RSt w q base cl L Wv) (hL : L.length ≤ 3) (hbase : base ≤ w.heap.size) (hv : IsViews w A cl vs) (hcl0 : 0 < cl) (hcl : cl ≤ 8) :
    Calls Try.prog 11 #[.pointer (some ⟨q, 0, none⟩), .slice A cl c] w fun e w' =>
      (vs.all okV = true ∧ e = .returned (.int .i64 0) ∧ ∃ L' Wv', RSt w' q base cl L' Wv' ∧ L'.map (·.2) = last3 (L.map (·.2) ++ [vs]) ∧ L'.length ≤ 3 ∧ RPart q Wv w w' ∧ ∀ k, Foot q Wv' L' k → Foot q Wv L k ∨ w.heap.size ≤ k) ∨
      (vs.all okV = false ∧ e = .returned (.int .i64 1) ∧ w = w') := by
  have h0 := hst.c0
  have c1 := hst.c1
  have f1 := hst.f1
  have hqw := hst.qlt
  have T := hid hst
  have hcl8' : cl ≤ 1000 := by omega
  have hL1000 : L.length ≤ 1000 := by omega
  have NE := hid (show some q ≠ Wv.ownBlock from fun e => by have := (hst.own.lt q e.symm).1; have := hst.qb; omega)
  have OW := hid (show ∀ w2, Below w.heap.size w w2 → ∀ o, (w2.alloc o).ownsRow base 31 1 Wv L.length (L.map (·.1)) from fun w2 hb o => own_of_block hst.own (fun g hg => ((Below.refl w2.heap.size w2).alloc (Nat.le_refl _) o |>.block g (Nat.lt_of_lt_of_le (hst.own.lt g hg).2 hb.size)).trans (hb.block g (hst.own.lt g hg).2)))
  have VL := hid hv.1
  obtain ⟨b, off, hA, hbl, hc⟩ : ∃ b off, A = some ⟨b, off, none⟩ ∧ b < w.heap.size ∧ ∀ i, i < cl → w.cell? ⟨b, off + i * 3, none⟩ = some (.int .i64 (vs.getD i (0, 0, 0)).1) ∧ w.cell? ⟨b, off + i * 3 + 1, none⟩ = some (.int .i64 (vs.getD i (0, 0, 0)).2.1) ∧ w.cell? ⟨b, off + i * 3 + 2, none⟩ = some (.int .i64 (vs.getD i (0, 0, 0)).2.2) := by
    rcases hv with ⟨_, h0 | h⟩
    · omega
    · exact h
  subst hA
  have V := hid hv
  have VA := hid (show ∀ o, IsViews ((w.alloc o).drew) (some ⟨b, off, none⟩) cl vs from fun o => (hv.below ((Below.refl _ _).alloc (Nat.le_refl _) o).drew))
  have HC := hid hc
  clear hst hv hc
  go_enter Try.func11, Try.ntmps11
  go_wp2_with fail
  go_loop [5] (fun iv => ∃ (k : Nat), k ≤ cl ∧ iv = .int .i64 k ∧ Hid (∀ j, j < k → okV (vs.getD j (0, 0, 0)) = true)) (fun iv => cl - (intOf iv).toNat)
  case atStart =>
    exact ⟨0, by omega, rfl, hid (fun j hj => absurd hj (by omega))⟩
  case round =>
    obtain ⟨k, hk, rfl, HJ⟩ := hrel
    by_cases hlt : k < cl
    · obtain ⟨cx, cy, cz⟩ := HC.out k hlt
      obtain ⟨⟨x, y, z⟩, hxyz⟩ : ∃ v, vs.getD k (0, 0, 0) = v := ⟨_, rfl⟩
      rw [hxyz] at cx cy cz
      simp only at cx cy cz
      have HV := hid hxyz
      clear hxyz
      have bad : okV (x, y, z) = false → vs.all okV = false := fun h => all_bad HV.out V.out hlt (by rw [h]; simp)
      have BAD := hid bad
      clear bad
      by_cases hx : okN x = true
      · by_cases hy : okN y = true
        · by_cases hz : okN z = true
          · have HO := hid (show okV (x, y, z) = true by simp [okV, hx, hy, hz])
            go_wp2_with (go_at_call 17; refine (in_t _ _).mono ?_; rintro e w' ⟨rfl, rfl⟩)
            go_round
            case rel =>
              refine ⟨k + 1, by omega, by go_num, hid (fun j hj => ?_)⟩
              by_cases e : j = k
              · subst e; rw [HV.out]; exact HO.out
              · exact HJ.out j (by omega)
            case measure => simp [intOf]; omega
          · have hz' : okN z = false := by simpa using hz
            have HO := hid (show okV (x, y, z) = false by simp [okV, hx, hy, hz'])
            clear hz
            go_wp2_with (go_at_call 17; refine (in_t _ _).mono ?_; rintro e w' ⟨rfl, rfl⟩)
            go_ret
            exact .inr ⟨BAD.out HO.out, rfl, rfl⟩
        · have hy' : okN y = false := by simpa using hy
          have HO := hid (show okV (x, y, z) = false by simp [okV, hx, hy'])
          clear hy
          go_wp2_with (go_at_call 17; refine (in_t _ _).mono ?_; rintro e w' ⟨rfl, rfl⟩)
          go_ret
          exact .inr ⟨BAD.out HO.out, rfl, rfl⟩
      · have hx' : okN x = false := by simpa using hx
        have HO := hid (show okV (x, y, z) = false by simp [okV, hx'])
        clear hx
        go_wp2_with (go_at_call 17; refine (in_t _ _).mono ?_; rintro e w' ⟨rfl, rfl⟩)
        go_ret
        exact .inr ⟨BAD.out HO.out, rfl, rfl⟩
    · obtain rfl : k = cl := by omega
      have HOK := hid (all_ok V.out HJ.out)
      clear hlt hk
      go_upto_region 8 with fail
      go_cut [] (fun wx => More q base k L Wv vs w wx)
      case first =>
          refine wp_region_any (by kernel_rfl) ?_
          try (change wpAny _ _ _ _ _ _ _ (World.drew _))
          refine wpAny_take (i := 0) (v := ?_) (by simp; rfl) (by kernel_rfl) (by kernel_rfl) (by kernel_rfl) (by intro _ _ _ h; exact h) (Or.inl ⟨by rfl, ?_⟩) ?_
          rotate_left
          · intro w; go_simp; try with_reducible rfl
          try simp only [Act.put, List.setIfInBounds_toArray, List.set_cons_zero, List.set_cons_succ]
          refine wpAny_take (i := 1) (v := ?_) (by simp; rfl) (by kernel_rfl) (by kernel_rfl) (by kernel_rfl) (by intro _ _ _ h; exact h) (Or.inl ⟨by rfl, ?_⟩) ?_
          rotate_left
          · intro w; go_simp; try with_reducible rfl
          try simp only [Act.put, List.setIfInBounds_toArray, List.set_cons_zero, List.set_cons_succ]
          refine wpAny_take (i := 2) (v := ?_) (by simp; rfl) (by kernel_rfl) (by kernel_rfl) (by kernel_rfl) (by intro _ _ _ h; exact h) (Or.inl ⟨by rfl, ?_⟩) ?_
          rotate_left
          · intro w; go_simp; try with_reducible rfl
          try simp only [Act.put, List.setIfInBounds_toArray, List.set_cons_zero, List.set_cons_succ]
          refine wpAny_take (i := 3) (v := ?_) (by simp; rfl) (by kernel_rfl) (by kernel_rfl) (by kernel_rfl) (by intro _ _ _ h; exact h) (Or.inl ⟨by rfl, ?_⟩) ?_
          rotate_left
          · intro w; go_simp; try with_reducible rfl
          try simp only [Act.put, List.setIfInBounds_toArray, List.set_cons_zero, List.set_cons_succ]
          refine wpAny_take (i := 6) (v := ?_) (by simp; rfl) (by kernel_rfl) (by kernel_rfl) (by kernel_rfl) (by intro _ _ _ h; exact h) (Or.inl ⟨by rfl, ?_⟩) ?_
          rotate_left
          · intro w; go_simp; try with_reducible rfl
          try simp only [Act.put, List.setIfInBounds_toArray, List.set_cons_zero, List.set_cons_succ]
          refine wpAny_ready (rs := [4, 5]) (by kernel_rfl) (by simp) ?_
          refine AllReady.cons (by simp; rfl) (fun K hK => ?_) ?_
          · go_simp
            refine hK _ _ ?_
            clear hK K
            refine wpAny_ready (rs := [5]) (by kernel_rfl) (by simp) ?_
            refine AllReady.cons (by simp; rfl) (fun K hK => ?_) ?_
            · go_simp
              refine hK _ _ ?_
              clear hK K
              refine wpAny_ready (rs := [7]) (by kernel_rfl) (by simp) ?_
              refine AllReady.cons (by simp; rfl) (fun K hK => ?_) ?_
              · refine step_copyR rfl (.tmp 49) (.tmp 50) rfl w.heap.size (by simp [Act.eval]) (heap_alloc_at _ _) (some ⟨b, off, none⟩) k c vs (by simp [Act.eval]) (VA.out _) hcl8' hcl0 ?_
                intro g1 cap1 w2 ho2 hg2
                obtain ⟨hb2, e1, hz2⟩ := copy_facts hg2 hqw c1; have hq2 : q < w2.heap.size := Nat.lt_trans hqw hz2
                have HO2 := hid ho2
                have HB2 := hid hb2
                clear ho2 hg2 hb2
                try go_simp
                refine hK _ _ ?_
                clear hK K
                refine wpAny_ready (rs := [8]) (by kernel_rfl) (by simp) ?_
                refine AllReady.cons (by simp; rfl) (fun K hK => ?_) ?_
                · go_simp
                  refine hK _ _ ?_
                  clear hK K
                  refine wpAny_ready (rs := [9]) (by kernel_rfl) (by simp) ?_
                  refine AllReady.cons (by simp; rfl) (fun K hK => ?_) ?_
                  · refine step_appL rfl (.tmp 48) (.tmp 52) rfl base Wv L.length (L.map (·.1)) (by simp [Act.eval]) (OW.out w2 HB2.out _) w2.heap.size (some ⟨g1, 0, none⟩) k cap1 (by simp [Act.eval]) (heap_alloc_at _ _) hL1000 (by first | (simp; done) | (simp; omega)) ?_
                    intro g3 cap3 w3 ho3 hg3 hat3
                    obtain ⟨d1, d2⟩ := app_facts2 hg3 hz2 hqw NE.out HB2.out c1 f1
                    have HO3 := hid ho3
                    have HG3 := hid hg3
                    have HA3 := hid hat3
                    clear ho3 hg3 hat3
                    try go_simp
                    refine hK _ _ ?_
                    clear hK K
                    refine wpAny_take (i := 10) (v := ?_) (by simp; rfl) (by kernel_rfl) (by kernel_rfl) (by kernel_rfl) (by intro _ _ _ h; exact h) (Or.inl ⟨by rfl, ?_⟩) ?_
                    rotate_left
                    · intro w; go_simp; try with_reducible rfl
                    try simp only [Act.put, List.setIfInBounds_toArray, List.set_cons_zero, List.set_cons_succ]
                    refine wpAny_take (i := 11) (v := ?_) (by simp; rfl) (by kernel_rfl) (by kernel_rfl) (by kernel_rfl) (by intro _ _ _ h; exact h) (Or.inl ⟨by rfl, ?_⟩) ?_
                    rotate_left
                    · intro w; go_simp; try with_reducible rfl
                    try simp only [Act.put, List.setIfInBounds_toArray, List.set_cons_zero, List.set_cons_succ]
                    refine wpAny_ready (rs := [12]) (by kernel_rfl) (by simp) ?_
                    refine AllReady.cons (by simp; rfl) (fun K hK => ?_) ?_
                    · go_simp
                      refine hK _ _ ?_
                      clear hK K
                      refine wpAny_done (by kernel_rfl) ?_ _
                      (try go_wp2_with fail); go_meet; exact more_of T.out hL hbase HOK.out VL.out hcl0 HB2.out (Nat.le_refl _) HO2.out HG3.out (by simpa using HA3.out) HO3.out
                    exact AllReady.nil
                  exact AllReady.nil
                exact AllReady.nil
              exact AllReady.nil
            exact AllReady.nil
          refine AllReady.cons (by simp; rfl) (fun K hK => ?_) ?_
          · go_simp
            refine hK _ _ ?_
            clear hK K
            refine wpAny_ready (rs := [4, 7]) (by kernel_rfl) (by simp) ?_
            refine AllReady.cons (by simp; rfl) (fun K hK => ?_) ?_
            · go_simp
              refine hK _ _ ?_
              clear hK K
              refine wpAny_ready (rs := [7]) (by kernel_rfl) (by simp) ?_
              refine AllReady.cons (by simp; rfl) (fun K hK => ?_) ?_
              · refine step_copyR rfl (.tmp 49) (.tmp 50) rfl w.heap.size (by simp [Act.eval]) (heap_alloc_at _ _) (some ⟨b, off, none⟩) k c vs (by simp [Act.eval]) (VA.out _) hcl8' hcl0 ?_
                intro g1 cap1 w2 ho2 hg2
                obtain ⟨hb2, e1, hz2⟩ := copy_facts hg2 hqw c1; have hq2 : q < w2.heap.size := Nat.lt_trans hqw hz2
                have HO2 := hid ho2
                have HB2 := hid hb2
                clear ho2 hg2 hb2
                try go_simp
                refine hK _ _ ?_
                clear hK K
                refine wpAny_ready (rs := [8]) (by kernel_rfl) (by simp) ?_
                refine AllReady.cons (by simp; rfl) (fun K hK => ?_) ?_
                · go_simp
                  refine hK _ _ ?_
                  clear hK K
                  refine wpAny_ready (rs := [9]) (by kernel_rfl) (by simp) ?_
                  refine AllReady.cons (by simp; rfl) (fun K hK => ?_) ?_
                  · refine step_appL rfl (.tmp 48) (.tmp 52) rfl base Wv L.length (L.map (·.1)) (by simp [Act.eval]) (OW.out w2 HB2.out _) w2.heap.size (some ⟨g1, 0, none⟩) k cap1 (by simp [Act.eval]) (heap_alloc_at _ _) hL1000 (by first | (simp; done) | (simp; omega)) ?_
                    intro g3 cap3 w3 ho3 hg3 hat3
                    obtain ⟨d1, d2⟩ := app_facts2 hg3 hz2 hqw NE.out HB2.out c1 f1
                    have HO3 := hid ho3
                    have HG3 := hid hg3
                    have HA3 := hid hat3
                    clear ho3 hg3 hat3
                    try go_simp
                    refine hK _ _ ?_
                    clear hK K
                    refine wpAny_take (i := 10) (v := ?_) (by simp; rfl) (by kernel_rfl) (by kernel_rfl) (by kernel_rfl) (by intro _ _ _ h; exact h) (Or.inl ⟨by rfl, ?_⟩) ?_
                    rotate_left
                    · intro w; go_simp; try with_reducible rfl
                    try simp only [Act.put, List.setIfInBounds_toArray, List.set_cons_zero, List.set_cons_succ]
                    refine wpAny_take (i := 11) (v := ?_) (by simp; rfl) (by kernel_rfl) (by kernel_rfl) (by kernel_rfl) (by intro _ _ _ h; exact h) (Or.inl ⟨by rfl, ?_⟩) ?_
                    rotate_left
                    · intro w; go_simp; try with_reducible rfl
                    try simp only [Act.put, List.setIfInBounds_toArray, List.set_cons_zero, List.set_cons_succ]
                    refine wpAny_ready (rs := [12]) (by kernel_rfl) (by simp) ?_
                    refine AllReady.cons (by simp; rfl) (fun K hK => ?_) ?_
                    · go_simp
                      refine hK _ _ ?_
                      clear hK K
                      refine wpAny_done (by kernel_rfl) ?_ _
                      (try go_wp2_with fail); go_meet; exact more_of T.out hL hbase HOK.out VL.out hcl0 HB2.out (Nat.le_refl _) HO2.out HG3.out (by simpa using HA3.out) HO3.out
                    exact AllReady.nil
                  exact AllReady.nil
                exact AllReady.nil
              exact AllReady.nil
            refine AllReady.cons (by simp; rfl) (fun K hK => ?_) ?_
            · refine step_copyR rfl (.tmp 49) (.tmp 50) rfl w.heap.size (by simp [Act.eval]) (heap_alloc_at _ _) (some ⟨b, off, none⟩) k c vs (by simp [Act.eval]) (VA.out _) hcl8' hcl0 ?_
              intro g1 cap1 w2 ho2 hg2
              obtain ⟨hb2, e1, hz2⟩ := copy_facts hg2 hqw c1; have hq2 : q < w2.heap.size := Nat.lt_trans hqw hz2
              have HO2 := hid ho2
              have HB2 := hid hb2
              clear ho2 hg2 hb2
              try go_simp
              refine hK _ _ ?_
              clear hK K
              refine wpAny_ready (rs := [4, 8]) (by kernel_rfl) (by simp) ?_
              refine AllReady.cons (by simp; rfl) (fun K hK => ?_) ?_
              · go_simp
                refine hK _ _ ?_
                clear hK K
                refine wpAny_ready (rs := [8]) (by kernel_rfl) (by simp) ?_
                refine AllReady.cons (by simp; rfl) (fun K hK => ?_) ?_
                · go_simp
                  refine hK _ _ ?_
                  clear hK K
                  refine wpAny_ready (rs := [9]) (by kernel_rfl) (by simp) ?_
                  refine AllReady.cons (by simp; rfl) (fun K hK => ?_) ?_
                  · refine step_appL rfl (.tmp 48) (.tmp 52) rfl base Wv L.length (L.map (·.1)) (by simp [Act.eval]) (OW.out w2 HB2.out _) w2.heap.size (some ⟨g1, 0, none⟩) k cap1 (by simp [Act.eval]) (heap_alloc_at _ _) hL1000 (by first | (simp; done) | (simp; omega)) ?_
                    intro g3 cap3 w3 ho3 hg3 hat3
                    obtain ⟨d1, d2⟩ := app_facts2 hg3 hz2 hqw NE.out HB2.out c1 f1
                    have HO3 := hid ho3
                    have HG3 := hid hg3
                    have HA3 := hid hat3
                    clear ho3 hg3 hat3
                    try go_simp
                    refine hK _ _ ?_
                    clear hK K
                    refine wpAny_take (i := 10) (v := ?_) (by simp; rfl) (by kernel_rfl) (by kernel_rfl) (by kernel_rfl) (by intro _ _ _ h; exact h) (Or.inl ⟨by rfl, ?_⟩) ?_
                    rotate_left
                    · intro w; go_simp; try with_reducible rfl
                    try simp only [Act.put, List.setIfInBounds_toArray, List.set_cons_zero, List.set_cons_succ]
                    refine wpAny_take (i := 11) (v := ?_) (by simp; rfl) (by kernel_rfl) (by kernel_rfl) (by kernel_rfl) (by intro _ _ _ h; exact h) (Or.inl ⟨by rfl, ?_⟩) ?_
                    rotate_left
                    · intro w; go_simp; try with_reducible rfl
                    try simp only [Act.put, List.setIfInBounds_toArray, List.set_cons_zero, List.set_cons_succ]
                    refine wpAny_ready (rs := [12]) (by kernel_rfl) (by simp) ?_
                    refine AllReady.cons (by simp; rfl) (fun K hK => ?_) ?_
                    · go_simp
                      refine hK _ _ ?_
                      clear hK K
                      refine wpAny_done (by kernel_rfl) ?_ _
                      (try go_wp2_with fail); go_meet; exact more_of T.out hL hbase HOK.out VL.out hcl0 HB2.out (Nat.le_refl _) HO2.out HG3.out (by simpa using HA3.out) HO3.out
                    exact AllReady.nil
                  exact AllReady.nil
                exact AllReady.nil
              refine AllReady.cons (by simp; rfl) (fun K hK => ?_) ?_
              · go_simp
                refine hK _ _ ?_
                clear hK K
                refine wpAny_ready (rs := [4]) (by kernel_rfl) (by simp) ?_
                refine AllReady.cons (by simp; rfl) (fun K hK => ?_) ?_
                · go_simp
                  refine hK _ _ ?_
                  clear hK K
                  refine wpAny_ready (rs := [9]) (by kernel_rfl) (by simp) ?_
                  refine AllReady.cons (by simp; rfl) (fun K hK => ?_) ?_
                  · refine step_appL rfl (.tmp 48) (.tmp 52) rfl base Wv L.length (L.map (·.1)) (by simp [Act.eval]) (OW.out w2 HB2.out _) w2.heap.size (some ⟨g1, 0, none⟩) k cap1 (by simp [Act.eval]) (heap_alloc_at _ _) hL1000 (by first | (simp; done) | (simp; omega)) ?_
                    intro g3 cap3 w3 ho3 hg3 hat3
                    obtain ⟨d1, d2⟩ := app_facts2 hg3 hz2 hqw NE.out HB2.out c1 f1
                    have HO3 := hid ho3
                    have HG3 := hid hg3
                    have HA3 := hid hat3
                    clear ho3 hg3 hat3
                    try go_simp
                    refine hK _ _ ?_
                    clear hK K
                    refine wpAny_take (i := 10) (v := ?_) (by simp; rfl) (by kernel_rfl) (by kernel_rfl) (by kernel_rfl) (by intro _ _ _ h; exact h) (Or.inl ⟨by rfl, ?_⟩) ?_
                    rotate_left
                    · intro w; go_simp; try with_reducible rfl
                    try simp only [Act.put, List.setIfInBounds_toArray, List.set_cons_zero, List.set_cons_succ]
                    refine wpAny_take (i := 11) (v := ?_) (by simp; rfl) (by kernel_rfl) (by kernel_rfl) (by kernel_rfl) (by intro _ _ _ h; exact h) (Or.inl ⟨by rfl, ?_⟩) ?_
                    rotate_left
                    · intro w; go_simp; try with_reducible rfl
                    try simp only [Act.put, List.setIfInBounds_toArray, List.set_cons_zero, List.set_cons_succ]
                    refine wpAny_ready (rs := [12]) (by kernel_rfl) (by simp) ?_
                    refine AllReady.cons (by simp; rfl) (fun K hK => ?_) ?_
                    · go_simp
                      refine hK _ _ ?_
                      clear hK K
                      refine wpAny_done (by kernel_rfl) ?_ _
                      (try go_wp2_with fail); go_meet; exact more_of T.out hL hbase HOK.out VL.out hcl0 HB2.out (Nat.le_refl _) HO2.out HG3.out (by simpa using HA3.out) HO3.out
                    exact AllReady.nil
                  exact AllReady.nil
                exact AllReady.nil
              exact AllReady.nil
            exact AllReady.nil
          exact AllReady.nil

      case rest =>
        obtain ⟨L1, g3, cap3, hst1, hm1, hl1, hp1, hf1⟩ := hcut
        obtain ⟨m, hm⟩ : ∃ m, L.length + 1 = m := ⟨_, rfl⟩
        rw [hm] at hst1 hf1 hl1
        have T1 := hid hst1
        have HM1 := hid hm1
        have HL1 := hid hl1
        have HP1 := hid hp1
        have HF1 := hid hf1
        have d0 := hst1.c0
        have d1 := hst1.c1
        have d2 := hst1.f1
        have hq1 := hst1.qlt
        have hcap := own_cap' hst1.own
        rw [hl1] at hcap
        have hz1 := hp1.size
        have hm4 : m ≤ 4 := by omega
        have HLm := hid hm
        clear hst1 hm1 hl1 hp1 hf1 hm h0 c1 f1 hL1000
        by_cases hlen : m = 4
        · subst hlen
          have hcap1 : ¬ cap3 = 1 := by omega
          have hx0 : cap3 ≤ 9223372036854775807 := by have := hcap.2; unfold maxLen at this; omega
          have hx1 : 4 ≤ cap3 := hcap.1
          have hgq := (T1.out.own.lt g3 rfl).2
          clear hcap
          obtain ⟨xs, hxs⟩ : ∃ xs, (L1.drop 1).map (·.1) = xs := ⟨_, rfl⟩
          have TO := T1.out.own
          rw [HL1.out] at TO
          have CELLS := hid (show ∀ j u, xs[j]? = some u → (wc.alloc (.cells #[] 31)).cell? ⟨g3, 1 + j, none⟩ = some u from by
            intro j u hj
            rw [← hxs] at hj
            have hj3 : j < 3 := by have := (List.getElem?_eq_some_iff.1 hj).1; simp [HL1.out] at this; omega
            rw [World.cell?_alloc_lt wc _ ⟨g3, 1 + j, none⟩ hgq, TO.cellAt (1 + j) (by omega), ← hj, Nat.add_comm 1 j]
            simp)
          have ONE := hid (show ∀ u ∈ xs, u.oneCell' = true from by
            intro u hu
            rw [← hxs] at hu
            obtain ⟨x, hx, rfl⟩ := List.mem_map.1 hu
            obtain ⟨b, off, c, e, _⟩ := T1.out.row x (List.mem_of_mem_drop hx)
            rw [e]; rfl)
          have LEN := hid (show xs.length = 3 by rw [← hxs]; simp [HL1.out])
          have HXS := hid hxs
          clear TO hxs
          go_wp2_with (at_builtin; refine wpList_copyL rfl (.tmp 63) (.tmp 68) rfl wc.heap.size rfl (heap_alloc_at _ _) g3 1 3 _ xs rfl LEN.out CELLS.out ONE.out (by decide) (by decide) ?go)
          case go =>
            intro g5 cap5 w5 ho5 hg5
            have hb5 := ((Below.refl wc.heap.size wc).alloc (Nat.le_refl _) (.cells #[] 31)).grown hg5 (by simp) (fun j hj => by simp at hj; omega)
            have DR := hid (drop_of (Wv := Wv) T1.out HL1.out (by omega) hb5 (Nat.le_refl _) (by rw [HXS.out]; exact ho5))
            have d1' := (hb5.cell (p := ⟨q, 1, none⟩) hq1).trans d1
            have d2' := (hb5.frozen (p := ⟨q, 1, none⟩) hq1).trans d2
            clear ho5 hg5 hb5
            go_wp2_with fail
            go_ret
            refine .inl ⟨(by first | exact HOK.out | simpa using HOK.out), rfl, L1.drop 1, _, DR.out.1, ?_, by simp [HL1.out], HP1.out.trans DR.out.2.1, fun k hk => ?_⟩
            · rw [List.map_drop, HM1.out]
              unfold last3
              rw [show (L.map (·.2) ++ [vs]).length - 3 = 1 by simp; have := HLm.out; omega]
            · rcases DR.out.2.2 k hk with h | h
              · exact HF1.out k h
              · exact .inr (by omega)
        · have hg : decide (3 < (m : Int)) = false := by simp; omega
          have hm3 : m ≤ 3 := by omega
          clear hlen hcap
          go_wp2_with fail
          go_ret
          refine .inl ⟨(by first | exact HOK.out | simpa using HOK.out), rfl, L1, _, T1.out, ?_, by rw [HL1.out]; exact hm3, HP1.out, HF1.out⟩
          rw [HM1.out]
          unfold last3
          rw [show (L.map (·.2) ++ [vs]).length - 3 = 0 by simp; have := HLm.out; omega]
          rfl
end Go.Proofs.Ytkfpkgamjpdhaaa.Au
