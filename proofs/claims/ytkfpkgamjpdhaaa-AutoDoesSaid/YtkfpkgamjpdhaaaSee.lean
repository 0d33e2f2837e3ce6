/- See: a window laid behind the others. Conditions: those that each contract names. -/
import Derived.Test.YtkfpkgamjpdhaaaArr
namespace Go.Proofs.Ytkfpkgamjpdhaaa.Au
open Go.RowKit
set_option linter.unusedVariables false
set_option linter.unusedSimpArgs false
theorem all_bad {w : World} {A : Option Addr} {n k : Nat} {vs : List (Int × Int × Int)} {v : Int × Int × Int} (hk : vs.getD k (0, 0, 0) = v) (hv : IsViews w A n vs) (hlt : k < n) (ho : ¬ okV v = true) : vs.all okV = false := by
  have hl := hv.1
  simp only [List.all_eq_false]
  refine ⟨v, ?_, ho⟩
  rw [← hk, List.getD_eq_getElem?_getD, List.getElem?_eq_getElem (by omega)]
  simp
theorem all_ok {w : World} {A : Option Addr} {n : Nat} {vs : List (Int × Int × Int)} (hv : IsViews w A n vs) (h : ∀ j, j < n → okV (vs.getD j (0, 0, 0)) = true) : vs.all okV = true := by
  have hl := hv.1
  rw [List.all_eq_true]
  intro v hm
  obtain ⟨j, hj, e⟩ := List.getElem_of_mem hm
  have := h j (by omega)
  rw [List.getD_eq_getElem?_getD, List.getElem?_eq_getElem hj] at this
  simpa [e] using this
theorem app_facts {wr w2 : World} {o : Obj} {p : Nat} {u : Value} {sn sc : Nat} {S : Option Addr} (hg : ((wr.alloc o).drew).grownBy w2 (Value.slice S sn sc).ownBlock) (ne : some p ≠ (Value.slice S sn sc).ownBlock) (hp : p < wr.heap.size)
    (c0 : wr.cell? ⟨p, 0, none⟩ = some u) (c1 : wr.cell? ⟨p, 1, none⟩ = some (.slice S sn sc)) (f1 : wr.frozen? ⟨p, 1, none⟩ = false) :
    w2.cell? ⟨p, 0, none⟩ = some u ∧ w2.cell? ⟨p, 1, none⟩ = some (.slice S sn sc) ∧ w2.frozen? ⟨p, 1, none⟩ = false ∧ Hid (Part p S wr w2) := by
  have hb := (Below.refl wr.heap.size wr).alloc (Nat.le_refl _) o
  have hlt : p < (wr.alloc o).drew.heap.size := Nat.lt_of_lt_of_le hp hb.size
  exact ⟨(hg.cell_far ⟨p, 0, none⟩ hlt ne).trans ((hb.cell (p := ⟨p, 0, none⟩) hp).trans c0), (hg.cell_far ⟨p, 1, none⟩ hlt ne).trans ((hb.cell (p := ⟨p, 1, none⟩) hp).trans c1),
    (hg.frozen_far ⟨p, 1, none⟩ hlt ne).trans ((hb.frozen (p := ⟨p, 1, none⟩) hp).trans f1), (Part.of_below (p := p) (S := S) hb.drew).trans (b := (wr.alloc o).drew) (Part.of_grown hg)⟩
set_option maxRecDepth 100000 in
set_option maxHeartbeats 4000000 in
theorem see_ok (p : Nat) (cl : Nat) (ws : List (List Int)) (S : Option Addr) (sc : Nat) (A : Option Addr) (n c : Nat) (vs : List (Int × Int × Int)) (w : World)
    (hst : St w p cl ws S sc) (hv : IsViews w A n vs) (hn : n = cl) (hcl : cl ≤ 8) :
    Calls Try.prog 9 #[.pointer (some ⟨p, 0, none⟩), .slice A n c] w fun e w' =>
      (vs.all okV = true ∧ e = .returned (.int .i64 0) ∧ ∃ S' sc' win, St w' p cl (last3 (ws ++ [win])) S' sc' ∧ WinTo win vs n ∧ Part p S w w' ∧ ∀ ad, S' = some ad → w.heap.size ≤ ad.block) ∨
      (vs.all okV = false ∧ e = .returned (.int .i64 1) ∧ Below w.heap.size w w') := by
  obtain ⟨sn, hsn⟩ : ∃ sn, ws.length = sn := ⟨_, rfl⟩
  have h0 := hst.c0
  have h1 := hst.c1
  rw [hsn] at h1
  have hp := World.block_lt_of_cell? w _ h0
  simp only at hp
  have hsn3 : sn ≤ 3 := by have := hst.few; omega
  have T := hid hst
  have SN := hid hsn
  clear hst hsn
  have V := hid hv
  clear hv
  subst hn
  go_enter Try.func9, Try.ntmps9
  go_wp2_with fail
  go_loopw [17] (fun iv wr => ∃ (k : Nat) (win : List Int), k ≤ n ∧ iv = .int .i64 k ∧ Blk 55 wr w.heap.size win ∧ Hid (WinTo win vs k ∧ ∀ j, j < k → okV (vs.getD j (0, 0, 0)) = true) ∧ Below w.heap.size w wr) (fun iv _ => n - (intOf iv).toNat)
  case atStart =>
    refine ⟨0, List.replicate 24 0, by omega, rfl, Blk.new 55 w (List.replicate 24 0) _ rfl, hid ⟨⟨by simp, fun c hc => absurd hc (by omega)⟩, fun j hj => absurd hj (by omega)⟩, (Below.refl _ _).alloc (Nat.le_refl _) _⟩
  case round =>
    obtain ⟨k, win, hk, rfl, hbk, HW, hb⟩ := hrel
    have K := hid hbk
    have B := hid hb
    have hsz := hb.size
    have hgl := hbk.lt
    clear hbk hb
    by_cases hlt : k < n
    · obtain ⟨b, off, hA, hbl, hc⟩ : ∃ b off, A = some ⟨b, off, none⟩ ∧ b < w.heap.size ∧ ∀ i, i < n → w.cell? ⟨b, off + i * 3, none⟩ = some (.int .i64 (vs.getD i (0, 0, 0)).1) ∧ w.cell? ⟨b, off + i * 3 + 1, none⟩ = some (.int .i64 (vs.getD i (0, 0, 0)).2.1) ∧ w.cell? ⟨b, off + i * 3 + 2, none⟩ = some (.int .i64 (vs.getD i (0, 0, 0)).2.2) := by
        rcases V.out with ⟨_, h0 | h⟩
        · omega
        · exact h
      subst hA
      obtain ⟨cx, cy, cz⟩ := hc k hlt
      have dx := (B.out.cell (p := ⟨b, off + k * 3, none⟩) hbl).trans cx
      have dy := (B.out.cell (p := ⟨b, off + k * 3 + 1, none⟩) hbl).trans cy
      have dz := (B.out.cell (p := ⟨b, off + k * 3 + 2, none⟩) hbl).trans cz
      clear hc cx cy cz h0 h1 hp
      obtain ⟨⟨x, y, z⟩, hxyz⟩ : ∃ v, vs.getD k (0, 0, 0) = v := ⟨_, rfl⟩
      rw [hxyz] at dx dy dz
      simp only at dx dy dz
      have HV := hid hxyz
      clear hxyz
      by_cases hok : okV (x, y, z) = true
      · have hh : (0 ≤ x ∧ x ≤ 2147483647) ∧ (0 ≤ y ∧ y ≤ 2147483647) ∧ (0 ≤ z ∧ z ≤ 2147483647) := by
          unfold okV okN at hok; simp at hok; omega
        obtain ⟨⟨x0, x1⟩, ⟨y0, y1⟩, ⟨z0, z1⟩⟩ := hh
        have HO := hid hok
        clear hok
        have r1 := run_min3 x y z
        have r2 := run_max3 x y z
        have r3 : decide (mn3 x y z < 0) = false := by simp; have := mn3_neg x y z; omega
        have r4 : decide (2147483647 < mx3 x y z) = false := by simp; have := mx3_big x y z; omega
        have h24 : win.length = 24 := HW.out.1.1
        have k0 := K.out.cell (k * 3) (by omega)
        have k1 := K.out.cell (k * 3 + 1) (by omega)
        have k2 := K.out.cell (k * 3 + 2) (by omega)
        have f0 := K.out.free (k * 3)
        have f1 := K.out.free (k * 3 + 1)
        have f2 := K.out.free (k * 3 + 2)
        clear h24
        have hk8 : (k : Int) < 8 := by omega
        generalize win.getD (k * 3) 0 = u0 at k0
        generalize win.getD (k * 3 + 1) 0 = u1 at k1
        generalize win.getD (k * 3 + 2) 0 = u2 at k2
        go_wp2_with fail
        go_roundw
        case rel =>
          refine ⟨k + 1, _, by omega, by go_num, (((K.out.set (k * 3) x).set (k * 3 + 1) y).set (k * 3 + 2) z).alloc _, hid ⟨?_, ?_⟩, (((B.out.setCell (Nat.le_refl _) _).setCell (Nat.le_refl _) _).setCell (Nat.le_refl _) _).alloc (by simp [World.setCell]; omega) _⟩
          · rw [Nat.mul_comm k 3]; exact HW.out.1.step HV.out (by omega)
          · intro j hj
            by_cases e : j = k
            · subst e; rw [HV.out]; exact HO.out
            · exact HW.out.2 j (by omega)
        case measure => simp [intOf]; omega
      · have HO := hid hok
        have r1 := run_min3 x y z
        have r2 := run_max3 x y z
        by_cases hneg : mn3 x y z < 0
        · have r3 : decide (mn3 x y z < 0) = true := by simp; omega
          clear hok hneg
          go_wp2_with fail
          go_ret
          refine .inr ⟨all_bad HV.out V.out hlt HO.out, rfl, B.out.alloc (by omega) _⟩
        · have r3 : decide (mn3 x y z < 0) = false := by simp; omega
          have r4 : decide (2147483647 < mx3 x y z) = true := by
            have h1 := mn3_neg x y z
            have h2 := mx3_big x y z
            unfold okV okN at hok; simp at hok ⊢; omega
          clear hok hneg
          go_wp2_with fail
          go_ret
          refine .inr ⟨all_bad HV.out V.out hlt HO.out, rfl, B.out.alloc (by omega) _⟩
    · obtain rfl : k = n := by omega
      clear hlt hk
      have hW := B.out.size
      have c0 := (B.out.cell (p := ⟨p, 0, none⟩) hp).trans h0
      have c1 := (B.out.cell (p := ⟨p, 1, none⟩) hp).trans h1
      have f1 := (B.out.frozen (p := ⟨p, 1, none⟩) hp).trans T.out.f1
      have OW := hid (own_kept T.out.own B.out)
      have h24 : win.length = 24 := HW.out.1.1
      have HR := hid (rangeAt_blk K.out)
      have H24 := hid h24
      have hpr : p < wr.heap.size := Nat.lt_of_lt_of_le hp hW
      have NE := hid (ne_own OW.out)
      rw [SN.out] at NE
      clear h0 h1 h24
      go_wp2_with fail
      go_cut [] (fun wx => Longer w p k ws S win wx)
      case first =>
        refine wp_region_any (by kernel_rfl) ?_
        try (change wpAny _ _ _ _ _ _ _ (World.drew _))
        refine wpAny_take (i := 0) (v := ?_) (by simp; rfl) (by kernel_rfl) (by kernel_rfl) (by kernel_rfl) (by intro _ _ _ h; exact h) (Or.inl ⟨by rfl, ?_⟩) ?_
        rotate_left
        · intro w; go_simp; try with_reducible rfl
        try simp only [Act.put, List.setIfInBounds_toArray, List.set_cons_zero, List.set_cons_succ]
        refine wpAny_take (i := 1) (v := ?_) (by simp; rfl) (by kernel_rfl) (by kernel_rfl) (by kernel_rfl) (by intro _ _ _ h; exact h) (Or.inl ⟨by rfl, ?_⟩) ?_
        rotate_left
        · intro w; go_simp; try with_reducible rfl
        try simp only [Act.put, List.setIfInBounds_toArray, List.set_cons_zero, List.set_cons_succ]
        refine wpAny_take (i := 2) (v := ?_) (by simp; rfl) (by kernel_rfl) (by kernel_rfl) (by kernel_rfl) (by intro _ _ _ h; exact h) (Or.inl ⟨by rfl, ?_⟩) ?_
        rotate_left
        · intro w; go_simp; try with_reducible rfl
        try simp only [Act.put, List.setIfInBounds_toArray, List.set_cons_zero, List.set_cons_succ]
        refine wpAny_take (i := 3) (v := ?_) (by simp; rfl) (by kernel_rfl) (by kernel_rfl) (by kernel_rfl) (by intro _ _ _ h; exact h) (Or.inl ⟨by rfl, ?_⟩) ?_
        rotate_left
        · intro w; go_simp; try with_reducible rfl
        try simp only [Act.put, List.setIfInBounds_toArray, List.set_cons_zero, List.set_cons_succ]
        refine wpAny_ready (rs := [4, 5]) (by kernel_rfl) (by simp) ?_
        refine AllReady.cons (by simp; rfl) (fun K hK => ?_) ?_
        · go_simp
          refine hK _ _ ?_
          clear hK K
          refine wpAny_ready (rs := [5]) (by kernel_rfl) (by simp) ?_
          refine AllReady.cons (by simp; rfl) (fun K hK => ?_) ?_
          · refine step_load55 rfl (.tmp 5) rfl w.heap.size 0 win (by simp [Act.eval]) HR.out H24.out ?_
            try go_simp
            refine hK _ _ ?_
            clear hK K
            refine wpAny_ready (rs := [6]) (by kernel_rfl) (by simp) ?_
            refine AllReady.cons (by simp; rfl) (fun K hK => ?_) ?_
            · refine step_one55 rfl (.tmp 49) rfl win (by simp [Act.eval]) H24.out ?_
              try go_simp
              refine hK _ _ ?_
              clear hK K
              refine wpAny_ready (rs := [7]) (by kernel_rfl) (by simp) ?_
              refine AllReady.cons (by simp; rfl) (fun K hK => ?_) ?_
              · refine step_appW rfl (.tmp 48) (.tmp 50) rfl (p+1) (.slice S sn sc) sn ws.flatten (by simp [Act.eval]) (SN.out ▸ (OW.out.alloc _).drew) wr.heap.size win (by simp [Act.eval]) (heap_alloc_at _ _) H24.out hsn3 (by first | (simp; done) | (simp; omega)) ?_
                intro g2 cap2 w2 ho2 hg2 hat2
                obtain ⟨d0, d1, d2, HP2⟩ := app_facts hg2 NE.out hpr c0 c1 f1
                have HO2 := hid ho2
                clear ho2 hg2 hat2
                try go_simp
                refine hK _ _ ?_
                clear hK K
                refine wpAny_take (i := 8) (v := ?_) (by simp; rfl) (by kernel_rfl) (by kernel_rfl) (by kernel_rfl) (by intro _ _ _ h; exact h) (Or.inl ⟨by rfl, ?_⟩) ?_
                rotate_left
                · intro w; go_simp; try with_reducible rfl
                try simp only [Act.put, List.setIfInBounds_toArray, List.set_cons_zero, List.set_cons_succ]
                refine wpAny_take (i := 9) (v := ?_) (by simp; rfl) (by kernel_rfl) (by kernel_rfl) (by kernel_rfl) (by intro _ _ _ h; exact h) (Or.inl ⟨by rfl, ?_⟩) ?_
                rotate_left
                · intro w; go_simp; try with_reducible rfl
                try simp only [Act.put, List.setIfInBounds_toArray, List.set_cons_zero, List.set_cons_succ]
                refine wpAny_ready (rs := [10]) (by kernel_rfl) (by simp) ?_
                refine AllReady.cons (by simp; rfl) (fun K hK => ?_) ?_
                · go_simp
                  refine hK _ _ ?_
                  clear hK K
                  refine wpAny_done (by kernel_rfl) ?_ _
                  (try go_wp2_with fail); go_meet; exact longer_of SN.out B.out HP2.out d0 d1 d2 HO2.out
                exact AllReady.nil
              exact AllReady.nil
            exact AllReady.nil
          exact AllReady.nil
        refine AllReady.cons (by simp; rfl) (fun K hK => ?_) ?_
        · refine step_load55 rfl (.tmp 5) rfl w.heap.size 0 win (by simp [Act.eval]) HR.out H24.out ?_
          try go_simp
          refine hK _ _ ?_
          clear hK K
          refine wpAny_ready (rs := [4, 6]) (by kernel_rfl) (by simp) ?_
          refine AllReady.cons (by simp; rfl) (fun K hK => ?_) ?_
          · go_simp
            refine hK _ _ ?_
            clear hK K
            refine wpAny_ready (rs := [6]) (by kernel_rfl) (by simp) ?_
            refine AllReady.cons (by simp; rfl) (fun K hK => ?_) ?_
            · refine step_one55 rfl (.tmp 49) rfl win (by simp [Act.eval]) H24.out ?_
              try go_simp
              refine hK _ _ ?_
              clear hK K
              refine wpAny_ready (rs := [7]) (by kernel_rfl) (by simp) ?_
              refine AllReady.cons (by simp; rfl) (fun K hK => ?_) ?_
              · refine step_appW rfl (.tmp 48) (.tmp 50) rfl (p+1) (.slice S sn sc) sn ws.flatten (by simp [Act.eval]) (SN.out ▸ (OW.out.alloc _).drew) wr.heap.size win (by simp [Act.eval]) (heap_alloc_at _ _) H24.out hsn3 (by first | (simp; done) | (simp; omega)) ?_
                intro g2 cap2 w2 ho2 hg2 hat2
                obtain ⟨d0, d1, d2, HP2⟩ := app_facts hg2 NE.out hpr c0 c1 f1
                have HO2 := hid ho2
                clear ho2 hg2 hat2
                try go_simp
                refine hK _ _ ?_
                clear hK K
                refine wpAny_take (i := 8) (v := ?_) (by simp; rfl) (by kernel_rfl) (by kernel_rfl) (by kernel_rfl) (by intro _ _ _ h; exact h) (Or.inl ⟨by rfl, ?_⟩) ?_
                rotate_left
                · intro w; go_simp; try with_reducible rfl
                try simp only [Act.put, List.setIfInBounds_toArray, List.set_cons_zero, List.set_cons_succ]
                refine wpAny_take (i := 9) (v := ?_) (by simp; rfl) (by kernel_rfl) (by kernel_rfl) (by kernel_rfl) (by intro _ _ _ h; exact h) (Or.inl ⟨by rfl, ?_⟩) ?_
                rotate_left
                · intro w; go_simp; try with_reducible rfl
                try simp only [Act.put, List.setIfInBounds_toArray, List.set_cons_zero, List.set_cons_succ]
                refine wpAny_ready (rs := [10]) (by kernel_rfl) (by simp) ?_
                refine AllReady.cons (by simp; rfl) (fun K hK => ?_) ?_
                · go_simp
                  refine hK _ _ ?_
                  clear hK K
                  refine wpAny_done (by kernel_rfl) ?_ _
                  (try go_wp2_with fail); go_meet; exact longer_of SN.out B.out HP2.out d0 d1 d2 HO2.out
                exact AllReady.nil
              exact AllReady.nil
            exact AllReady.nil
          refine AllReady.cons (by simp; rfl) (fun K hK => ?_) ?_
          · refine step_one55 rfl (.tmp 49) rfl win (by simp [Act.eval]) H24.out ?_
            try go_simp
            refine hK _ _ ?_
            clear hK K
            refine wpAny_ready (rs := [4]) (by kernel_rfl) (by simp) ?_
            refine AllReady.cons (by simp; rfl) (fun K hK => ?_) ?_
            · go_simp
              refine hK _ _ ?_
              clear hK K
              refine wpAny_ready (rs := [7]) (by kernel_rfl) (by simp) ?_
              refine AllReady.cons (by simp; rfl) (fun K hK => ?_) ?_
              · refine step_appW rfl (.tmp 48) (.tmp 50) rfl (p+1) (.slice S sn sc) sn ws.flatten (by simp [Act.eval]) (SN.out ▸ (OW.out.alloc _).drew) wr.heap.size win (by simp [Act.eval]) (heap_alloc_at _ _) H24.out hsn3 (by first | (simp; done) | (simp; omega)) ?_
                intro g2 cap2 w2 ho2 hg2 hat2
                obtain ⟨d0, d1, d2, HP2⟩ := app_facts hg2 NE.out hpr c0 c1 f1
                have HO2 := hid ho2
                clear ho2 hg2 hat2
                try go_simp
                refine hK _ _ ?_
                clear hK K
                refine wpAny_take (i := 8) (v := ?_) (by simp; rfl) (by kernel_rfl) (by kernel_rfl) (by kernel_rfl) (by intro _ _ _ h; exact h) (Or.inl ⟨by rfl, ?_⟩) ?_
                rotate_left
                · intro w; go_simp; try with_reducible rfl
                try simp only [Act.put, List.setIfInBounds_toArray, List.set_cons_zero, List.set_cons_succ]
                refine wpAny_take (i := 9) (v := ?_) (by simp; rfl) (by kernel_rfl) (by kernel_rfl) (by kernel_rfl) (by intro _ _ _ h; exact h) (Or.inl ⟨by rfl, ?_⟩) ?_
                rotate_left
                · intro w; go_simp; try with_reducible rfl
                try simp only [Act.put, List.setIfInBounds_toArray, List.set_cons_zero, List.set_cons_succ]
                refine wpAny_ready (rs := [10]) (by kernel_rfl) (by simp) ?_
                refine AllReady.cons (by simp; rfl) (fun K hK => ?_) ?_
                · go_simp
                  refine hK _ _ ?_
                  clear hK K
                  refine wpAny_done (by kernel_rfl) ?_ _
                  (try go_wp2_with fail); go_meet; exact longer_of SN.out B.out HP2.out d0 d1 d2 HO2.out
                exact AllReady.nil
              exact AllReady.nil
            exact AllReady.nil
          exact AllReady.nil
        exact AllReady.nil
      case rest =>
        obtain ⟨g2, cap2, e0, e1, e2, ho, hpt⟩ := hcut
        rw [SN.out] at e1 ho
        have hcap := own_cap ho
        have RL := hid (range_last SN.out T.out.wid H24.out ho)
        have HPT := hid hpt
        have hpw : p < wc.heap.size := Nat.lt_of_lt_of_le hp hpt.size
        clear ho hpt c0 c1 f1 OW hpr NE hW HR K
        have hx0 : cap2 ≤ 9223372036854775807 := by have := hcap.2; unfold maxLen at this; omega
        have hx1 := hcap.1
        clear hcap
        obtain rfl | rfl | rfl | rfl : sn = 0 ∨ sn = 1 ∨ sn = 2 ∨ sn = 3 := by omega
        · have wq : IntKind.i64.wrap (-2) = -2 := by decide
          have hc0 : ¬ cap2 = 0 := by omega
          have FL := hid (show (last3 (ws ++ [win])).flatten.length = 1 * 24 by rw [flat24 (ws := last3 (ws ++ [win])) (fun l hl => wid_snoc T.out.wid H24.out l (List.mem_of_mem_drop hl)), last3_len SN.out])
          go_wp2_with fail
          go_region_with (go_at_call 16; refine (clone_any g2 0 1 _ (last3 (ws ++ [win])).flatten wc.drew RL.out FL.out (by decide) (by decide)).mono ?_; rintro e w' ⟨g', c', rfl, ho', hbd, hg'⟩; have hb' := below_drew hbd; have d1 := (hb'.cell (p := ⟨p, 1, none⟩) hpw).trans e1; have d2 := (hb'.frozen (p := ⟨p, 1, none⟩) hpw).trans e2; have ST := hid (st_of SN.out hsn3 T.out.wid H24.out hpw HPT.out rfl hb' e0 e1 e2 ho'); clear ho' hb' hbd hg')
          all_goals go_wp2_with fail
          all_goals go_ret
          all_goals refine .inl ⟨all_ok V.out HW.out.2, rfl, _, _, win, ST.out.1, HW.out.1, ST.out.2.1, fun ad e => by cases e; exact ST.out.2.2⟩
        · have wq : IntKind.i64.wrap (-1) = -1 := by decide
          have hc0 : ¬ cap2 = 0 := by omega
          have FL := hid (show (last3 (ws ++ [win])).flatten.length = 2 * 24 by rw [flat24 (ws := last3 (ws ++ [win])) (fun l hl => wid_snoc T.out.wid H24.out l (List.mem_of_mem_drop hl)), last3_len SN.out])
          go_wp2_with fail
          go_region_with (go_at_call 16; refine (clone_any g2 0 2 _ (last3 (ws ++ [win])).flatten wc.drew RL.out FL.out (by decide) (by decide)).mono ?_; rintro e w' ⟨g', c', rfl, ho', hbd, hg'⟩; have hb' := below_drew hbd; have d1 := (hb'.cell (p := ⟨p, 1, none⟩) hpw).trans e1; have d2 := (hb'.frozen (p := ⟨p, 1, none⟩) hpw).trans e2; have ST := hid (st_of SN.out hsn3 T.out.wid H24.out hpw HPT.out rfl hb' e0 e1 e2 ho'); clear ho' hb' hbd hg')
          all_goals go_wp2_with fail
          all_goals go_ret
          all_goals refine .inl ⟨all_ok V.out HW.out.2, rfl, _, _, win, ST.out.1, HW.out.1, ST.out.2.1, fun ad e => by cases e; exact ST.out.2.2⟩
        · have wq : IntKind.i64.wrap (0) = 0 := by decide
          have hc0 : ¬ cap2 = 0 := by omega
          have FL := hid (show (last3 (ws ++ [win])).flatten.length = 3 * 24 by rw [flat24 (ws := last3 (ws ++ [win])) (fun l hl => wid_snoc T.out.wid H24.out l (List.mem_of_mem_drop hl)), last3_len SN.out])
          go_wp2_with fail
          go_region_with (go_at_call 16; refine (clone_any g2 0 3 _ (last3 (ws ++ [win])).flatten wc.drew RL.out FL.out (by decide) (by decide)).mono ?_; rintro e w' ⟨g', c', rfl, ho', hbd, hg'⟩; have hb' := below_drew hbd; have d1 := (hb'.cell (p := ⟨p, 1, none⟩) hpw).trans e1; have d2 := (hb'.frozen (p := ⟨p, 1, none⟩) hpw).trans e2; have ST := hid (st_of SN.out hsn3 T.out.wid H24.out hpw HPT.out rfl hb' e0 e1 e2 ho'); clear ho' hb' hbd hg')
          all_goals go_wp2_with fail
          all_goals go_ret
          all_goals refine .inl ⟨all_ok V.out HW.out.2, rfl, _, _, win, ST.out.1, HW.out.1, ST.out.2.1, fun ad e => by cases e; exact ST.out.2.2⟩
        · have wq : IntKind.i64.wrap (1) = 1 := by decide
          have hc0 : ¬ cap2 = 1 := by omega
          have FL := hid (show (last3 (ws ++ [win])).flatten.length = 3 * 24 by rw [flat24 (ws := last3 (ws ++ [win])) (fun l hl => wid_snoc T.out.wid H24.out l (List.mem_of_mem_drop hl)), last3_len SN.out])
          go_wp2_with fail
          go_region_with (go_at_call 16; refine (clone_any g2 24 3 _ (last3 (ws ++ [win])).flatten wc.drew RL.out FL.out (by decide) (by decide)).mono ?_; rintro e w' ⟨g', c', rfl, ho', hbd, hg'⟩; have hb' := below_drew hbd; have d1 := (hb'.cell (p := ⟨p, 1, none⟩) hpw).trans e1; have d2 := (hb'.frozen (p := ⟨p, 1, none⟩) hpw).trans e2; have ST := hid (st_of SN.out hsn3 T.out.wid H24.out hpw HPT.out rfl hb' e0 e1 e2 ho'); clear ho' hb' hbd hg')
          all_goals go_wp2_with fail
          all_goals go_ret
          all_goals refine .inl ⟨all_ok V.out HW.out.2, rfl, _, _, win, ST.out.1, HW.out.1, ST.out.2.1, fun ad e => by cases e; exact ST.out.2.2⟩
end Go.Proofs.Ytkfpkgamjpdhaaa.Au
