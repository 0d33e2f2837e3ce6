/- AutoMost, walked. Conditions: those that the contract names. -/
import Derived.Test.YtkfpkgamjpdhaaaMostPure
import Derived.Test.YtkfpkgamjpdhaaaWorks
namespace Go.Proofs.Ytkfpkgamjpdhaaa.Au
open Go.RowKit
set_option linter.unusedVariables false
set_option linter.unusedSimpArgs false
theorem bestM_succ (fs : List Int) (C k : Nat) : bestM fs C (k + 1) = if k ≠ C ∧ (bestM fs C k < 0 ∨ frM fs (bestM fs C k).toNat < frM fs k) then (k : Int) else bestM fs C k := rfl
set_option maxRecDepth 100000 in
set_option maxHeartbeats 4000000 in
theorem most_law (n0 : Int) (E : Option Addr) (en ec : Nat) (F : Option Addr) (fn fc : Nat) (c0 : Int) (es fs : List Int) (w : World) (hE : IsInts w E en es) (hF : IsInts w F fn fs) (hen : en ≤ 9223372036854775807) (hfn : fn ≤ 9223372036854775807) :
    Calls Try.prog 5 #[.int .i64 n0, .slice E en ec, .slice F fn fc, .int .i64 c0] w fun e w' => e = .returned (.bool true) ∧ Below w.heap.size w w' := by
  have HE := hid hE
  have HF := hid hF
  clear hE hF
  obtain ⟨m, em, m0, m1⟩ := modu n0 7 (by omega) (by omega)
  have EM := hid em
  clear em
  go_enter Try.func5, Try.ntmps5
  go_wp2_with fail
  refine (works_any _).mono ?_; rintro e w0 ⟨rfl, hb⟩
  have B0 := hid hb
  have hs0 := hb.size
  clear hb
  go_upto_region 3 with fail
  obtain ⟨N, hN⟩ : ∃ N : Nat, (N : Int) = 2 + m := ⟨(2 + m).toNat, by omega⟩
  have hN2 : 2 ≤ N := by omega
  have hN8 : N ≤ 8 := by omega
  go_cut [0] (fun v wx => v = .int .i64 N ∧ w0 = wx)
  case first =>
    have e2 : wrap64 (2 + m) = N := by unfold wrap64; omega
    have E2 := hid e2
    clear e2 m0 m1 hN
    go_wp2_with fail
    rw [EM.out, E2.out]
    go_meet
    exact ⟨rfl, rfl⟩
  case rest =>
    obtain ⟨rfl, rfl⟩ := hcut
    clear m0 m1 hN EM m
    have hwN : IntKind.u64.wrap (N : Int) = N := by simp [IntKind.wrap, IntKind.signed, IntKind.bits]; omega
    obtain ⟨c', ec', c1, c2⟩ := modu c0 N (by omega) (by omega)
    have EC := hid ec'
    clear ec'
    have hN0 : ¬ (N : Int) = 0 := by omega
    obtain ⟨C, hC⟩ : ∃ C : Nat, (C : Int) = c' := ⟨c'.toNat, by omega⟩
    have hCN : C < N := by omega
    go_upto_region 4 with fail
    go_cut [3] (fun v wx => v = .int .i64 C ∧ w0 = wx)
    case first =>
      subst hC
      clear c1 c2
      go_wp2_with fail
      rw [EC.out]
      go_meet
      exact ⟨rfl, rfl⟩
    case rest =>
      obtain ⟨rfl, rfl⟩ := hcut
      clear c1 c2 hC EC c' hwN hN0
      go_wp2_with fail
      refine (new_ok N _ (by omega) (by omega)).mono ?_
      rintro e w1 ⟨rfl, hst, hb⟩
      have T1 := hid hst
      have B1 := hid (B0.out.trans (hb.mono hs0))
      have hs1 := hb.size
      have hp1 : w0.heap.size < w1.heap.size := World.block_lt_of_cell? w1 _ hst.c0
      clear hst hb
      go_wp2_with fail
      go_loopw [11, 12, 13] (fun bv lv iv wr => ∃ (k : Nat), k ≤ N ∧ iv = .int .i64 k ∧ bv = .int .i64 (bestM fs C k) ∧ OwnV wr w1.heap.size lv (rowM fs k) ∧ Below w1.heap.size w1 wr) (fun _ _ iv _ => N - (intOf iv).toNat)
      case atStart =>
        refine ⟨0, by omega, rfl, rfl, OwnV.nil _ _, Below.refl _ _⟩
      case round =>
        obtain ⟨k, hk, rfl, rfl, ho, hb⟩ := hrel
        have O := hid ho
        have B := hid hb
        have hsz := hb.size
        clear ho hb
        by_cases hlt : k < N
        · go_upto_if 52 with fail
          have hk8 : (k : Int) < 8 := by omega
          obtain ⟨fr, hfr⟩ : ∃ x, frM fs k = x := ⟨_, rfl⟩
          have FR := hid hfr
          clear hfr
          go_cut [] (fun wx => Blk 48 wx wr.heap.size [0, 2, fr] ∧ Below wr.heap.size wr wx)
          case first =>
            by_cases hkf : k < fn
            · obtain ⟨b, off, hA, hbl, hc⟩ : ∃ b off, F = some ⟨b, off, none⟩ ∧ b < w.heap.size ∧ ∀ i, i < fn → w.cell? ⟨b, off + i, none⟩ = some (.int .i64 (fs.getD i 0)) := by
                rcases HF.out.2 with h0 | h
                · omega
                · exact h
              subst hA
              have q := (B1.out.cell (p := ⟨b, off + k, none⟩) hbl).trans (hc k hkf)
              have hbl1 : b < w1.heap.size := Nat.lt_of_lt_of_le hbl B1.out.size
              have q2 := (B.out.cell (p := ⟨b, off + k, none⟩) hbl1).trans q
              have hblr : b < wr.heap.size := Nat.lt_of_lt_of_le hbl1 hsz
              have hx : m1000 (fs.getD k 0) = fr := by have := FR.out; unfold frM at this; rw [if_pos (by rw [HF.out.1]; exact hkf)] at this; exact this
              unfold m1000 at hx
              have HX := hid hx
              clear hx q hc
              generalize fs.getD k 0 = fx at q2 HX
              go_wp2_with fail
              rw [HX.out]
              go_meet
              exact ⟨Blk.new 48 wr [0, 2, fr] _ rfl, (Below.refl _ _).alloc (Nat.le_refl _) _⟩
            · have hx : fr = 0 := by have := FR.out; unfold frM at this; rw [if_neg (by rw [HF.out.1]; exact hkf)] at this; exact this.symm
              have HX := hid hx
              clear hx
              go_wp2_with fail
              go_meet
              rw [HX.out]
              exact ⟨Blk.new 48 wr [0, 2, 0] _ rfl, (Below.refl _ _).alloc (Nat.le_refl _) _⟩
          case rest =>
            obtain ⟨hkb, hbb⟩ := hcut
            have K := hid hkb
            have BX := hid (B.out.trans (hbb.mono hsz))
            have OX := hid (O.out.kept hbb)
            have hszx := BX.out.size
            have k0 := hkb.cell 0 (by simp)
            have k1 := hkb.cell 1 (by simp)
            have k2 := hkb.cell 2 (by simp)
            simp only [List.getD_cons_zero, List.getD_cons_succ] at k0 k1 k2
            clear hkb hbb
            obtain ⟨best, hbe⟩ : ∃ x, bestM fs C k = x := ⟨_, rfl⟩
            have hr := bestM_range fs C k
            have hst := bestM_succ fs C k
            rw [hbe, FR.out] at hst
            rw [hbe] at hr ⊢
            have HST := hid hst
            obtain ⟨r1, r2⟩ := hr
            clear hbe hst
            by_cases hkC : k = C
            · have a1 : ((k : Int) != C) = false := by simp [hkC]
              have a1' : (k != C) = false := by simp [hkC]
              have a1n : (k == C) = true := by simp [hkC]
              have HKC := hid hkC
              clear hkC r1 r2
              go_upto_region 16 with fail
              go_quiet (fail)
              go_wp2_with (at_builtin; refine wpList_appV rfl (.tmp 79) (.tmp 81) rfl w1.heap.size _ (rowM fs k) rfl ?own _ (0, 2, fr) rfl ?heap ?few ?base ?go)
              case own => exact (OX.out.kept ((Below.drewN' (Below.refl _ _) nq).alloc (Nat.le_refl _) _))
              case heap => first | exact heap_alloc_at _ _ | exact (Array.getElem?_eq_some_iff.1 (heap_alloc_at (wc.drewN nq) _)).2
              case few => rw [rowM_len]; omega
              case base => have := BX.out.size; simp; omega
              case go =>
                intro g2 cap2 w3 ho3 hg3
                have O3 := hid ho3
                have hz3 := Below.grown ((Below.drewN' BX.out nq).alloc hszx _) hg3 (by simp; omega) (fun k hk => (OX.out.lt k hk).1)
                have B3 := hid hz3
                rw [rowM_len] at O3 ⊢
                clear ho3 hg3 hz3
                go_wp2_with fail
                go_roundw
                case rel =>
                  refine ⟨k + 1, by omega, by go_num, by rw [HST.out, if_neg (fun h => h.1 HKC.out)], ?_, B3.out⟩
                  rw [rowM_succ, FR.out]; exact O3.out
                case measure => simp [intOf]; omega
            · have a1 : ((k : Int) != C) = true := by simp; omega
              have a1' : (k != C) = true := by simp [hkC]
              have a1n : (k == C) = false := by simp [hkC]
              have HKC := hid hkC
              clear hkC
              by_cases hb0 : best < 0
              · have a2 : decide (best < 0) = true := by simp [hb0]
                have HB0 := hid hb0
                clear hb0 r1 r2
                go_upto_region 16 with fail
                go_quiet (fail)
                go_wp2_with (at_builtin; refine wpList_appV rfl (.tmp 79) (.tmp 81) rfl w1.heap.size _ (rowM fs k) rfl ?own _ (0, 2, fr) rfl ?heap ?few ?base ?go)
                case own => exact (OX.out.kept ((Below.drewN' (Below.refl _ _) nq).alloc (Nat.le_refl _) _))
                case heap => first | exact heap_alloc_at _ _ | exact (Array.getElem?_eq_some_iff.1 (heap_alloc_at (wc.drewN nq) _)).2
                case few => rw [rowM_len]; omega
                case base => have := BX.out.size; simp; omega
                case go =>
                  intro g2 cap2 w3 ho3 hg3
                  have O3 := hid ho3
                  have hz3 := Below.grown ((Below.drewN' BX.out nq).alloc hszx _) hg3 (by simp; omega) (fun k hk => (OX.out.lt k hk).1)
                  have B3 := hid hz3
                  rw [rowM_len] at O3 ⊢
                  clear ho3 hg3 hz3
                  go_wp2_with fail
                  go_roundw
                  case rel =>
                    refine ⟨k + 1, by omega, by go_num, by rw [HST.out, if_pos ⟨HKC.out, .inl HB0.out⟩], ?_, B3.out⟩
                    rw [rowM_succ, FR.out]; exact O3.out
                  case measure => simp [intOf]; omega
              · have a2 : decide (best < 0) = false := by simp; omega
                obtain ⟨v, rfl⟩ : ∃ v : Nat, best = v := ⟨best.toNat, by omega⟩
                have hvk : v < k := by omega
                obtain ⟨g, cap, e, hg1, hg2⟩ := OX.out.form (by rw [rowM_len]; omega)
                rw [rowM_len] at e
                subst e
                obtain ⟨hv1, hv2⟩ := OX.out.views
                rcases hv1.2 with h0 | ⟨b, off, hA, hbl, hc⟩
                · omega
                cases hA
                have q := (hc v hvk).2.2
                rw [rowM_get fs k v hvk] at q
                simp only [Nat.zero_add] at q
                have HB0 := hid hb0
                obtain ⟨fv, hfv⟩ : ∃ x, frM fs v = x := ⟨_, rfl⟩
                rw [hfv] at q
                rw [Int.toNat_natCast, hfv] at HST
                have hv8 : (v : Int) < 8 := by omega
                clear hb0 r1 r2 hc hv1 hv2 hfv
                by_cases hfc : fv < fr
                · have a3 : decide (fv < fr) = true := by simp [hfc]
                  have HFC := hid hfc
                  clear hfc
                  go_upto_region 16 with fail
                  go_quiet (fail)
                  go_wp2_with (at_builtin; refine wpList_appV rfl (.tmp 79) (.tmp 81) rfl w1.heap.size _ (rowM fs k) rfl ?own _ (0, 2, fr) rfl ?heap ?few ?base ?go)
                  case own => exact (OX.out.kept ((Below.drewN' (Below.refl _ _) nq).alloc (Nat.le_refl _) _))
                  case heap => first | exact heap_alloc_at _ _ | exact (Array.getElem?_eq_some_iff.1 (heap_alloc_at (wc.drewN nq) _)).2
                  case few => rw [rowM_len]; omega
                  case base => have := BX.out.size; simp; omega
                  case go =>
                    intro g2 cap2 w3 ho3 hg3
                    have O3 := hid ho3
                    have hz3 := Below.grown ((Below.drewN' BX.out nq).alloc hszx _) hg3 (by simp; omega) (fun k hk => (OX.out.lt k hk).1)
                    have B3 := hid hz3
                    rw [rowM_len] at O3 ⊢
                    clear ho3 hg3 hz3
                    go_wp2_with fail
                    go_roundw
                    case rel =>
                      refine ⟨k + 1, by omega, by go_num, by rw [HST.out, if_pos ⟨HKC.out, .inr HFC.out⟩], ?_, B3.out⟩
                      rw [rowM_succ, FR.out]; exact O3.out
                    case measure => simp [intOf]; omega
                · have a3 : decide (fv < fr) = false := by simp; omega
                  have HFC := hid hfc
                  clear hfc
                  go_upto_region 16 with fail
                  go_quiet (fail)
                  go_wp2_with (at_builtin; refine wpList_appV rfl (.tmp 79) (.tmp 81) rfl w1.heap.size _ (rowM fs k) rfl ?own _ (0, 2, fr) rfl ?heap ?few ?base ?go)
                  case own => exact (OX.out.kept ((Below.drewN' (Below.refl _ _) nq).alloc (Nat.le_refl _) _))
                  case heap => first | exact heap_alloc_at _ _ | exact (Array.getElem?_eq_some_iff.1 (heap_alloc_at (wc.drewN nq) _)).2
                  case few => rw [rowM_len]; omega
                  case base => have := BX.out.size; simp; omega
                  case go =>
                    intro g2 cap2 w3 ho3 hg3
                    have O3 := hid ho3
                    have hz3 := Below.grown ((Below.drewN' BX.out nq).alloc hszx _) hg3 (by simp; omega) (fun k hk => (OX.out.lt k hk).1)
                    have B3 := hid hz3
                    rw [rowM_len] at O3 ⊢
                    clear ho3 hg3 hz3
                    go_wp2_with fail
                    go_roundw
                    case rel =>
                      refine ⟨k + 1, by omega, by go_num, by rw [HST.out, if_neg (fun h => h.2.elim (fun h => by have := HB0.out; omega) (fun h => by have := HFC.out; omega))], ?_, B3.out⟩
                      rw [rowM_succ, FR.out]; exact O3.out
                    case measure => simp [intOf]; omega
        · obtain rfl : k = N := by omega
          clear hlt hk
          obtain ⟨g, cap, e, hg1, hg2⟩ := O.out.form (by rw [rowM_len]; omega)
          rw [rowM_len] at e
          subst e
          obtain ⟨lo, hlo⟩ : ∃ lo, wr.heap.size = lo := ⟨_, rfl⟩
          have S0 := hid (Saw.new (T1.out.below B.out) lo)
          have OZ := hid (show OwnV wr w1.heap.size (.slice (some ⟨g, 0, none⟩) k cap) (rowZ fs k C 0) by rw [rowZ_zero fs k C hCN]; exact O.out)
          have BW := hid (B1.out.trans (B.out.mono B1.out.size))
          have hgl : g < lo := by omega
          have hgp : g ≠ w0.heap.size := by omega
          have hlw : lo ≤ wr.heap.size := by omega
          have hCN' : (C : Int) < k := by omega
          have hgw : w.heap.size ≤ g := by have := B1.out.size; omega
          have hplo : w0.heap.size < lo := by omega
          have hbest := bestM_some fs C k (by
            rcases Nat.eq_zero_or_pos C with h | h
            · exact ⟨1, by omega, by omega⟩
            · exact ⟨0, by omega, by omega⟩)
          obtain ⟨best, hbe⟩ : ∃ x, bestM fs C k = x := ⟨_, rfl⟩
          rw [hbe] at hbest ⊢
          have HBE := hid hbe
          have HBB := hid hbest
          clear hg1 hg2 hlo hbe hbest
          go_wp2_with fail
          go_loopw [15] (fun iv wr => ∃ (i : Nat), i ≤ 3 ∧ iv = .int .i64 i ∧ (∃ z, OwnV wr w1.heap.size (.slice (some ⟨g, 0, none⟩) k cap) (rowZ fs k C z)) ∧ Saw wr w0.heap.size k (vM fs es k C i) lo ∧ Below w.heap.size w wr ∧ lo ≤ wr.heap.size) (fun iv _ => 3 - (intOf iv).toNat)
          case atStart =>
            exact ⟨0, by omega, rfl, ⟨0, OZ.out⟩, S0.out, BW.out, hlw⟩
          case round =>
            obtain ⟨i, hi, rfl, ⟨z, hoz⟩, hsaw, hbw, hlw⟩ := hrel
            have OZ := hid hoz
            have SW := hid hsaw
            have BW := hid hbw
            have hszw := hbw.size
            have qc := hoz.cellAt (rowZ_len _ _ _ _) (C * 3) (by omega)
            clear hoz hsaw hbw
            obtain ⟨q1, q2⟩ := qc
            by_cases hlt : i < 3
            · go_upto_if 94 with fail
              have hk8 : (k : Int) < 9 := by omega
              have hi3 : (i : Int) < 3 := by omega
              obtain ⟨ez, hez⟩ : ∃ x, evM es i = x := ⟨_, rfl⟩
              have HEZ := hid hez
              have hezr := evM_range es i
              rw [hez] at hezr
              have HER := hid hezr
              clear hez hezr
              go_cut [] (fun wx => OwnV wx w1.heap.size (.slice (some ⟨g, 0, none⟩) k cap) (rowZ fs k C ez) ∧ Only g wr wx)
              case first =>
                by_cases hie : i < en
                · obtain ⟨b, off, hA, hbl, hc⟩ : ∃ b off, E = some ⟨b, off, none⟩ ∧ b < w.heap.size ∧ ∀ i, i < en → w.cell? ⟨b, off + i, none⟩ = some (.int .i64 (es.getD i 0)) := by
                    rcases HE.out.2 with h0 | h
                    · omega
                    · exact h
                  subst hA
                  have qq := (BW.out.cell (p := ⟨b, off + i, none⟩) hbl).trans (hc i hie)
                  have hne : g ≠ b := by omega
                  have hx : 1 + m1000 (es.getD i 0) = ez := by have := HEZ.out; unfold evM at this; rw [if_pos (by rw [HE.out.1]; exact hie)] at this; exact this
                  have hr := m1000_range (es.getD i 0)
                  have hx2 : wrap64 (1 + wrap64 ((IntKind.u64.wrap (es.getD i 0)).tmod 1000)) = ez := by
                    unfold m1000 at hx hr; unfold wrap64 at *; omega
                  have HX := hid hx2
                  clear hx hx2 hc hr
                  generalize es.getD i 0 = ex at qq HX
                  have hbr : b < wr.heap.size := by omega
                  go_wp2_with fail
                  rw [HX.out]
                  go_meet
                  exact ⟨(OZ.out.store (rowZ_len _ _ _ _) (rowZ_len fs k C 1) _ _ (rowZ_set _ _ _ _ _ hCN)).store (rowZ_len _ _ _ _) (rowZ_len _ _ _ _) _ _ (rowZ_set _ _ _ _ _ hCN), (Only.set _ _ _ _).trans (Only.set _ _ _ _)⟩
                · have hx : ez = 1 := by have := HEZ.out; unfold evM at this; rw [if_neg (by rw [HE.out.1]; exact hie)] at this; exact this.symm
                  have HX := hid hx
                  clear hx
                  go_wp2_with fail
                  go_meet
                  rw [HX.out]
                  exact ⟨OZ.out.store (rowZ_len _ _ _ _) (rowZ_len _ _ _ _) _ _ (rowZ_set _ _ _ _ _ hCN), Only.set _ _ _ _⟩
              case rest =>
                obtain ⟨hox, hon⟩ := hcut
                have hzx := hon.size
                have OX := hid hox
                have SX := hid (SW.out.only hon hgp hgl)
                have BX := hid (Only.below BW.out hon hgw hszw)
                clear hox hon q1 q2
                go_wp2_with (at_builtin; refine wpList_copyV rfl (.tmp 108) (.tmp 109) rfl wc.heap.size rfl (heap_alloc_at _ _) (some ⟨g, 0, none⟩) k cap (rowZ fs k C ez) rfl ?views ?few ?pos ?go)
                case views => exact (OX.out.views.1).below ((Below.refl _ _).alloc (Nat.le_refl _) _)
                case few => omega
                case pos => omega
                case go =>
                  intro g2 cap2 w4 ho4 hg4
                  have hb4 := ((Below.refl wc.heap.size wc).alloc (Nat.le_refl _) (.cells #[] 48)).grown hg4 (by simp) (fun j hj => by simp at hj; omega)
                  have S4 := hid (SX.out.below hb4)
                  have O4 := hid (OX.out.kept hb4)
                  have V4 := hid ho4.views.1
                  have B4 := hid (BX.out.trans (hb4.mono BX.out.size))
                  have hz4 : lo ≤ w4.heap.size := by have := hb4.size; omega
                  clear ho4 hg4 hb4
                  go_wp2_with fail
                  refine (see_saw _ k (vM fs es k C i) lo _ _ (rowZ fs k C ez) _ ?_ hz4 ?_ (by omega) (rowZ_ok _ _ _ _ (by have := HER.out; omega))).mono ?_
                  · exact S4.out
                  · exact V4.out
                  rintro e w5 ⟨rfl, hs5, hk5⟩
                  have ev := vM_succ fs es k C i hlt
                  rw [HEZ.out] at ev
                  rw [ev] at hs5
                  have S5 := hid hs5
                  have O5 := hid (O4.out.of_block (hk5.block g hgl hgp))
                  have B5 := hid (Kept.below B4.out hk5 (by have := B0.out.size; omega) (by omega))
                  have hz5 := hk5.size
                  clear hs5 hk5 ev
                  go_wp2_with fail
                  go_roundw
                  case rel =>
                    exact ⟨i + 1, by omega, by go_num, ⟨_, O5.out⟩, S5.out, B5.out, by omega⟩
                  case measure => simp [intOf]; omega
            · obtain rfl : i = 3 := by omega
              clear hlt hi q1 q2
              have hd := dec_most fs es k C hCN k (Nat.le_refl _)
              rw [if_pos hCN] at hd
              have HD := hid hd
              clear hd
              go_wp2_with fail
              refine (decide_to _ k (vM fs es k C 3) lo _ best C ?_ hlw (by omega) (vM_len _ _ _ _ _) (by rw [HD.out]; exact HBE.out) (by rw [HD.out]) ⟨HBB.out, by omega⟩).mono ?_
              · exact SW.out
              rintro e w6 ⟨rfl, hs6, hk6⟩
              have B6 := hid (Kept.below BW.out hk6 (by have := B0.out.size; omega) (by omega))
              clear hs6 hk6
              go_wp2_with fail
              go_ret
              exact ⟨rfl, B6.out⟩
end Go.Proofs.Ytkfpkgamjpdhaaa.Au
