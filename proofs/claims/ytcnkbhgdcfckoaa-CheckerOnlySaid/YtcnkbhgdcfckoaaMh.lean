/- The walk of must, whole. -/
import Derived.Test.YtcnkbhgdcfckoaaMg
set_option linter.unusedVariables false
set_option linter.unusedSimpArgs false
namespace Go.Proofs.Ytcnkbhgdcfckoaa
open Go.RowKit
namespace Ck

set_option maxHeartbeats 1600000 in
set_option maxRecDepth 100000 in
theorem must_go (C G : Nat) (b : Bk) (c : Cg) (v1 v2 p6 p7 : Value) (wh : Bool) (w : World) (h : BkRep w C b v1 v2 p6 p7) (hg : CgAt w G c) (hs : c.side = 1 ∨ c.side = 2) (he : c.empty = 0) (hgo : ¬ (c.kind = 4 ∧ c.traded = false ∧ wh = false)) (hb : b.ok) (hle : 0 ≤ c.left) (HW : c.kind = 4 → c.traded = false → Hid (∀ W, Only Nil w W → Calls Try.prog 69 #[.pointer (some ⟨C, 0, none⟩), .pointer (some ⟨G, 0, none⟩)] W fun e w' => e = .returned (.bool wh) ∧ Only Nil W w')) :
    Calls Try.prog 49 #[.pointer (some ⟨C, 0, none⟩), .pointer (some ⟨G, 0, none⟩)] w fun e w' => e = .returned (mustV (must wh b c)) ∧ Only Nil w w' := by
  have hmust : must wh b c = must true b c := by
    have h0 : ¬ (c.empty ≠ 0) := by simp [he]
    simp only [must, if_neg h0, if_neg hgo]
    simp
  rw [hmust]
  clear hmust
  have hkey : (c.kind == 4) = false ∨ (c.kind = 4 ∧ c.traded = true) ∨ (c.kind = 4 ∧ c.traded = false ∧ wh = true) := by
    by_cases h4 : c.kind = 4
    · cases ht : c.traded with
      | true => exact .inr (.inl ⟨h4, rfl⟩)
      | false =>
        cases hw : wh with
        | true => exact .inr (.inr ⟨h4, rfl, rfl⟩)
        | false => exact absurd ⟨h4, ht, hw⟩ hgo
    · exact .inl (by simp [h4])
  clear hgo
  have HC := Lib.hid (fun W (ho : Only Nil w W) => mc_of (h.nil ho) (hg.nil ho))
  have HFi := Lib.hid (fun W (ho : Only Nil w W) => first_any C G b c v1 v2 p6 p7 W (h.nil ho) (hg.nil ho) hs)
  have HOw := Lib.hid (fun o W (ho : Only Nil w W) => own_any C G b c o v1 v2 p6 p7 W (h.nil ho) (hg.nil ho))
  have HCn := Lib.hid (fun why W => cancel_row c.o.id c.left why W)
  have HZ : Hid ((w.alloc (.cells zE.row tEvt)).heap[w.heap.size]? = some (.cells zE.row tEvt (0, 0))) := Lib.hid (blk_new w (.cells zE.row tEvt))
  have HO := Lib.hid ((Only.refl Nil w).alloc (.cells zE.row tEvt))
  have hne : (c.empty != 0) = false := by simp [he]
  have hEmp := he
  have HbM := Lib.hid hb.meet
  have HFr := Lib.hid (fun p (hf : first b c = some p) => first_ok hb hs hf)
  clear h hg hs hb
  go_enter Try.func49, Try.ntmps49
  go_upto_region 2 with fail
  generalize hW : World.alloc w _ = W
  have hW' : w.alloc (.cells zE.row tEvt) = W := hW
  rw [hW'] at HZ HO
  clear hW hW'
  obtain ⟨a1, a2, a3, lC, g0, g1, g3, g7, g8, g9, g10, g11, g12, lG⟩ := HC.out W HO.out
  have lz := blk_lt HZ.out
  go_upto_region 6 with fail
  go_cut [68] from 13 to 200 (fun v68 wc => v68 = .bool false ∧ Hid (wc.heap[w.heap.size]? = some (.cells zE.row tEvt (0, 0))) ∧ Hid (Only Nil w wc))
  case first =>
    rcases hkey with h4 | ⟨h4, ht⟩ | ⟨h4, ht, hw⟩
    · clear HW
      go_wp2
      go_meet
      case rel => exact ⟨rfl, HZ, HO⟩
    · clear HW
      rw [h4] at g8
      rw [ht] at g10
      go_wp2
      go_meet
      case rel => exact ⟨rfl, HZ, HO⟩
    · replace HW := HW h4 ht
      rw [hw] at HW
      rw [h4] at g8
      rw [ht] at g10
      go_wp2_with fail
      refine (HW.out _ HO.out).mono ?_
      rintro e w1 ⟨rfl, ho⟩
      have HO1 := Lib.hid (HO.out.trans (S := Nil) ho (fun _ _ h => h))
      have HZ1 := Lib.hid (ho.blk HZ.out (fun h => h))
      clear a1 a2 a3 lC g0 g1 g3 g7 g8 g9 g10 g11 g12 lG ho HO HZ lz
      go_wp2
      go_meet
      case rel => exact ⟨rfl, HZ1, HO1⟩
  case rest =>
    obtain ⟨rfl, HZ1, HO1⟩ := hcut
    clear a1 a2 a3 lC g0 g1 g3 g7 g8 g9 g10 g11 g12 lG HO HZ lz HW hkey
    obtain ⟨a1, a2, a3, lC, g0, g1, g3, g7, g8, g9, g10, g11, g12, lG⟩ := HC.out wc HO1.out
    have lz := blk_lt HZ1.out
    by_cases hl : c.left = 0
    · have HM : Hid (must true b c = none) := Lib.hid (must_none hEmp hl)
      have hl1 : (c.left == 0) = true := by simp [hl]
      clear hl
      go_wp2_with (refine wpList_store_row rfl tEvt (.tmp 4) (.tmp 87) rfl _ rfl zE.row zE.row rfl _ HZ1.out infoEvt rfl (one_ev _) ?_)
      refine bodyPost_ret (v := .tuple #[.agg zE.row, .bool false]) (results_agg_tmp rfl _ _ _ _ _ _ _ rfl _ rfl (blk_setRow HZ1.out _) Try.underlying37 rfl infoEvt) rfl ⟨by rw [HM.out]; rfl, HO1.out.setRow (.inr (Nat.le_refl _)) _⟩
    · have hl1 : (c.left == 0) = false := by simp [hl]
      have hl2 : 0 < c.left := by omega
      cases hmet : c.met with
      | true =>
        have HM : Hid (must true b c = some (evCancel c.o.id c.left 5)) := Lib.hid (must_met hEmp hmet hl2)
        rw [hmet] at g12
        clear hl2 hl
        go_upto_region 11 with fail
        go_region_law (go_simp; go_at_call 68; (refine (HCn.out 5 _).mono ?_); rintro e wg ⟨rfl, hog⟩; have HZg := Lib.hid (hog.blk (blk_drew HZ1.out) (fun h => h)); have HOg := Lib.hid (HO1.out.drew.trans (S := Nil) hog (fun _ _ h => h)); obtain ⟨hs1, hs2⟩ := run_store_ev HZg.out (evCancel c.o.id c.left 5))
        all_goals
          clear hs1 hs2 a1 a2 a3 lC g0 g1 g3 g7 g8 g9 g10 g11 g12 lG
          go_wp2
          refine bodyPost_ret (v := .tuple #[.agg (evCancel c.o.id c.left 5).row, .bool true]) (results_agg_tmp rfl _ _ _ _ _ _ _ rfl _ rfl (blk_setRow HZg.out _) Try.underlying37 rfl infoEvt) rfl ⟨by rw [HM.out]; rfl, HOg.out.setRow (.inr (Nat.le_refl _)) _⟩
      | false =>
        rw [hmet] at g12
        clear hl
        go_wp2_with fail
        refine (HFi.out wc HO1.out).mono ?_
        rintro e w2 ⟨rfl, ho⟩
        have HO2 := Lib.hid (HO1.out.trans (S := Nil) ho (fun _ _ h => h))
        have HZ2 := Lib.hid (ho.blk HZ1.out (fun h => h))
        clear a1 a2 a3 lC g0 g1 g3 g7 g8 g9 g10 g11 g12 lG ho HO1 HZ1 lz
        obtain ⟨a1, a2, a3, lC, g0, g1, g3, g7, g8, g9, g10, g11, g12, lG⟩ := HC.out w2 HO2.out
        have lz := blk_lt HZ2.out
        cases hf : first b c with
        | none =>
          have hMe := must_end hEmp hmet hl2 hf
          unfold firstV
          simp only [Rs.row, zR]
          have HZ3 := Lib.hid (blk_alloc HZ2.out (.cells zR.row tR))
          have HO3 := Lib.hid (HO2.out.alloc (.cells zR.row tR))
          by_cases h1 : c.kind = 1 ∨ c.kind = 5
          · rw [if_pos h1] at hMe
            have HM := Lib.hid hMe
            have hkk : (c.kind != 1) = false ∨ ((c.kind != 1) = true ∧ (c.kind != 5) = false) := by
              rcases h1 with h1 | h1
              · exact .inl (by simp [h1])
              · exact .inr ⟨by simp [h1], by simp [h1]⟩
            clear hMe h1 hl2
            rcases hkk with k1 | ⟨k1, k2⟩
            · skip
              go_wp2_with (refine wpList_store_row rfl tEvt (.tmp 4) (.tmp 200) rfl _ rfl zE.row zE.row rfl _ HZ3.out infoEvt rfl (one_ev _) ?_)
              refine bodyPost_ret (v := .tuple #[.agg zE.row, .bool false]) (results_agg_tmp rfl _ _ _ _ _ _ _ rfl _ rfl (blk_setRow HZ3.out _) Try.underlying37 rfl infoEvt) rfl ⟨by rw [HM.out]; rfl, HO3.out.setRow (.inr (Nat.le_refl _)) _⟩
            · skip
              go_wp2_with (refine wpList_store_row rfl tEvt (.tmp 4) (.tmp 200) rfl _ rfl zE.row zE.row rfl _ HZ3.out infoEvt rfl (one_ev _) ?_)
              refine bodyPost_ret (v := .tuple #[.agg zE.row, .bool false]) (results_agg_tmp rfl _ _ _ _ _ _ _ rfl _ rfl (blk_setRow HZ3.out _) Try.underlying37 rfl infoEvt) rfl ⟨by rw [HM.out]; rfl, HO3.out.setRow (.inr (Nat.le_refl _)) _⟩
          · rw [if_neg h1] at hMe
            have HM := Lib.hid hMe
            have k1 : (c.kind != 1) = true := by simp; exact fun e => h1 (.inl e)
            have k2 : (c.kind != 5) = true := by simp; exact fun e => h1 (.inr e)
            clear hMe h1 hl2
            go_upto_region 20 with fail
            generalize hW : World.alloc w2 _ = W3
            have hW' : w2.alloc (.cells zR.row tR) = W3 := hW
            rw [hW'] at HZ3 HO3
            clear hW hW' a1 a2 a3 lC g0 g1 g3 g7 g8 g9 g10 g11 g12 lG lz HZ2 HO2
            obtain ⟨a1, a2, a3, lC, g0, g1, g3, g7, g8, g9, g10, g11, g12, lG⟩ := HC.out W3 HO3.out
            have lz := blk_lt HZ3.out
            go_upto_region 20 with fail
            go_region_law (go_simp; go_at_call 68; (refine (HCn.out 3 _).mono ?_); rintro e wg ⟨rfl, hog⟩; have HZg := Lib.hid (hog.blk (blk_drew HZ3.out) (fun h => h)); have HOg := Lib.hid (HO3.out.drew.trans (S := Nil) hog (fun _ _ h => h)); obtain ⟨hs1, hs2⟩ := run_store_ev HZg.out (evCancel c.o.id c.left 3))
            all_goals
              clear hs1 hs2 a1 a2 a3 lC g0 g1 g3 g7 g8 g9 g10 g11 g12 lG
              go_wp2
              refine bodyPost_ret (v := .tuple #[.agg (evCancel c.o.id c.left 3).row, .bool true]) (results_agg_tmp rfl _ _ _ _ _ _ _ rfl _ rfl (blk_setRow HZg.out _) Try.underlying37 rfl infoEvt) rfl ⟨by rw [HM.out]; rfl, HOg.out.setRow (.inr (Nat.le_refl _)) _⟩
        | some p =>
          obtain ⟨hpk, l, hdp, hxp⟩ := HFr.out p hf
          have hMe := must_at hEmp hmet hl2 hdp hxp
          have hsum := hpk.sum
          have hvis := hpk.vis
          have hhid := hpk.hid
          have HOwp := Lib.hid (fun W (ho : Only Nil w W) => HOw.out p W ho)
          unfold Rs.v at HOwp
          clear hf hdp hxp hpk hl2 HFi HFr
          have hwr : IntKind.u64.wrap (p.vis + p.hid) = p.vis + p.hid := by rw [IntKind.wrap_u64]; omega
          have hmeq : (b.meet == 1) = decide (b.meet = 1) := by cases hq : decide (b.meet = 1) <;> simp_all
          clear hsum hvis hhid
          unfold firstV
          simp only [Rs.row]
          go_upto_region 14 with fail
          generalize hW : World.alloc w2 _ = W3
          have hW' : w2.alloc (.cells p.row tR) = W3 := hW
          have HZ3 : Hid (W3.heap[w.heap.size]? = some (.cells zE.row tEvt (0, 0))) := Lib.hid (by rw [← hW']; exact blk_alloc HZ2.out _)
          have HO3 : Hid (Only Nil w W3) := Lib.hid (by rw [← hW']; exact HO2.out.alloc _)
          have HT3 : Hid (W3.heap[w2.heap.size]? = some (.cells p.row tR (0, 0))) := Lib.hid (by rw [← hW']; exact blk_new _ _)
          clear hW hW' a1 a2 a3 lC g0 g1 g3 g7 g8 g9 g10 g11 g12 lG lz HZ2 HO2
          obtain ⟨a1, a2, a3, lC, g0, g1, g3, g7, g8, g9, g10, g11, g12, lG⟩ := HC.out W3 HO3.out
          obtain ⟨q0, q1, q2, q3, q4, q5, q6, lq⟩ := rs_cells HT3.out
          have lz := blk_lt HZ3.out
          generalize w2.heap.size = S at *
          go_wp2_with fail
          refine (HOwp.out W3 HO3.out).mono ?_
          rintro e w4 ⟨rfl, ho⟩
          have HO4 := Lib.hid (HO3.out.trans (S := Nil) ho (fun _ _ h => h))
          have HZ4 := Lib.hid (ho.blk HZ3.out (fun h => h))
          have HT4 := Lib.hid (ho.blk HT3.out (fun h => h))
          clear a1 a2 a3 lC g0 g1 g3 g7 g8 g9 g10 g11 g12 lG q0 q1 q2 q3 q4 q5 q6 lq ho HO3 HZ3 HT3 lz
          obtain ⟨a1, a2, a3, lC, g0, g1, g3, g7, g8, g9, g10, g11, g12, lG⟩ := HC.out w4 HO4.out
          obtain ⟨q0, q1, q2, q3, q4, q5, q6, lq⟩ := rs_cells HT4.out
          have lz := blk_lt HZ4.out
          cases hown : own b c p with
          | true =>
            rw [if_pos hown] at hMe
            by_cases hm1 : b.meet = 1
            · rw [if_pos hm1] at hMe
              have HM := Lib.hid hMe
              have hme : (b.meet == 1) = true := by simp [hm1]
              clear hMe hm1 hmeq
              go_upto_region 15 with fail
              go_region_law (go_simp; go_at_call 68; (refine (HCn.out 5 _).mono ?_); rintro e wg ⟨rfl, hog⟩; have HZg := Lib.hid (hog.blk (blk_drew HZ4.out) (fun h => h)); have HOg := Lib.hid (HO4.out.drew.trans (S := Nil) hog (fun _ _ h => h)); obtain ⟨hs1, hs2⟩ := run_store_ev HZg.out (evCancel c.o.id c.left 5))
              all_goals
                clear hs1 hs2 a1 a2 a3 lC g0 g1 g3 g7 g8 g9 g10 g11 g12 lG
                go_wp2
                refine bodyPost_ret (v := .tuple #[.agg (evCancel c.o.id c.left 5).row, .bool true]) (results_agg_tmp rfl _ _ _ _ _ _ _ rfl _ rfl (blk_setRow HZg.out _) Try.underlying37 rfl infoEvt) rfl ⟨by rw [HM.out]; rfl, HOg.out.setRow (.inr (Nat.le_refl _)) _⟩
            · rw [if_neg hm1] at hMe
              have HM := Lib.hid hMe
              have hme : (b.meet == 1) = false := by simp [hm1]
              clear hMe hm1 hmeq
              rw [hown] at HOwp
              go_wp2_with fail
              refine (HOwp.out w4 HO4.out).mono ?_
              rintro e w5 ⟨rfl, ho⟩
              have HO5 := Lib.hid (HO4.out.trans (S := Nil) ho (fun _ _ h => h))
              have HZ5 := Lib.hid (ho.blk HZ4.out (fun h => h))
              have HT5 := Lib.hid (ho.blk HT4.out (fun h => h))
              clear a1 a2 a3 lC g0 g1 g3 g7 g8 g9 g10 g11 g12 lG q0 q1 q2 q3 q4 q5 q6 lq ho HO4 HZ4 HT4 lz
              obtain ⟨q0, q1, q2, q3, q4, q5, q6, lq⟩ := rs_cells HT5.out
              go_wp2_with fail
              refine (cancel_row p.id (p.vis + p.hid) 5 _).mono ?_
              rintro e wg ⟨rfl, hog⟩
              have HZg := Lib.hid (hog.blk HZ5.out (fun h => h))
              have HOg := Lib.hid (HO5.out.trans (S := Nil) hog (fun _ _ h => h))
              clear q0 q1 q2 q3 q4 q5 q6 lq
              go_wp2_with (refine wpList_store_row rfl tEvt (.tmp 4) (.tmp 152) rfl _ rfl (evCancel p.id (p.vis + p.hid) 5).row zE.row rfl _ HZg.out infoEvt rfl (one_ev _) ?_)
              refine bodyPost_ret (v := .tuple #[.agg (evCancel p.id (p.vis + p.hid) 5).row, .bool true]) (results_agg_tmp rfl _ _ _ _ _ _ _ rfl _ rfl (blk_setRow HZg.out _) Try.underlying37 rfl infoEvt) rfl ⟨by rw [HM.out]; rfl, HOg.out.setRow (.inr (Nat.le_refl _)) _⟩
          | false =>
            rw [if_neg (by rw [hown]; decide)] at hMe
            rw [hown] at HOwp
            clear hmeq
            go_wp2_with fail
            refine (HOwp.out w4 HO4.out).mono ?_
            rintro e w5 ⟨rfl, ho⟩
            have HO5 := Lib.hid (HO4.out.trans (S := Nil) ho (fun _ _ h => h))
            have HZ5 := Lib.hid (ho.blk HZ4.out (fun h => h))
            have HT5 := Lib.hid (ho.blk HT4.out (fun h => h))
            clear a1 a2 a3 lC g0 g1 g3 g7 g8 g9 g10 g11 g12 lG q0 q1 q2 q3 q4 q5 q6 lq ho HO4 HZ4 HT4 lz
            obtain ⟨a1, a2, a3, lC, g0, g1, g3, g7, g8, g9, g10, g11, g12, lG⟩ := HC.out w5 HO5.out
            obtain ⟨q0, q1, q2, q3, q4, q5, q6, lq⟩ := rs_cells HT5.out
            have lz := blk_lt HZ5.out
            rcases (by omega : p.vis < c.left ∨ ¬ p.vis < c.left) with hlt | hlt
            · have HM : Hid (must true b c = some { zE with kind := 3, id := c.o.id, other := p.id, side := c.side, price := p.price, qty := p.vis }) := Lib.hid (by rw [hMe, show min c.left p.vis = p.vis by omega])
              clear hMe
              go_upto_region 18 with fail
              go_still_tail 21, (by kernel_rfl)
              change wpList _ _ _ _ _ w5.drew
              clear a1 a2 a3 lC g0 g1 g3 g7 g8 g9 g10 g11 g12 lG q0 q1 q2 q3 q4 q5 q6 lq
              go_wp2_with (refine wpList_store_row rfl tEvt (.tmp 4) (.tmp 174) rfl _ rfl (Ev.row { zE with kind := 3, id := c.o.id, other := p.id, side := c.side, price := p.price, qty := p.vis }) zE.row rfl _ (blk_drew HZ5.out) infoEvt rfl (one_ev _) ?_)
              refine bodyPost_ret (v := .tuple #[.agg (Ev.row { zE with kind := 3, id := c.o.id, other := p.id, side := c.side, price := p.price, qty := p.vis }), .bool true]) (results_agg_tmp rfl _ _ _ _ _ _ _ rfl _ rfl (blk_setRow (blk_drew HZ5.out) _) Try.underlying37 rfl infoEvt) rfl ⟨by rw [HM.out]; rfl, HO5.out.drew.setRow (.inr (Nat.le_refl _)) _⟩
            · have HM : Hid (must true b c = some { zE with kind := 3, id := c.o.id, other := p.id, side := c.side, price := p.price, qty := c.left }) := Lib.hid (by rw [hMe, show min c.left p.vis = c.left by omega])
              have hF : (p.vis < c.left) = False := by simp only [eq_iff_iff, iff_false]; exact hlt
              have hG : (if p.vis < c.left then p.vis else c.left) = c.left := if_neg hlt
              clear hMe hlt
              go_upto_region 18 with fail
              go_still_tail 21, (by kernel_rfl)
              change wpList _ _ _ _ _ w5.drew
              clear a1 a2 a3 lC g0 g1 g3 g7 g8 g9 g10 g11 g12 lG q0 q1 q2 q3 q4 q5 q6 lq
              go_wp2_with (refine wpList_store_row rfl tEvt (.tmp 4) (.tmp 174) rfl _ rfl (Ev.row { zE with kind := 3, id := c.o.id, other := p.id, side := c.side, price := p.price, qty := c.left }) zE.row rfl _ (blk_drew HZ5.out) infoEvt rfl (one_ev _) ?_)
              refine bodyPost_ret (v := .tuple #[.agg (Ev.row { zE with kind := 3, id := c.o.id, other := p.id, side := c.side, price := p.price, qty := c.left }), .bool true]) (results_agg_tmp rfl _ _ _ _ _ _ _ rfl _ rfl (blk_setRow (blk_drew HZ5.out) _) Try.underlying37 rfl infoEvt) rfl ⟨by rw [HM.out]; rfl, HO5.out.drew.setRow (.inr (Nat.le_refl _)) _⟩

theorem must_any (C G : Nat) (b : Bk) (c : Cg) (v1 v2 p6 p7 : Value) (wh : Bool) (w : World) (h : BkRep w C b v1 v2 p6 p7) (hg : CgAt w G c) (hb : b.ok) (hc : Cg.ok b c) (HW : c.kind = 4 → c.traded = false → Hid (∀ W, Only Nil w W → Calls Try.prog 69 #[.pointer (some ⟨C, 0, none⟩), .pointer (some ⟨G, 0, none⟩)] W fun e w' => e = .returned (.bool wh) ∧ Only Nil W w')) :
    Calls Try.prog 49 #[.pointer (some ⟨C, 0, none⟩), .pointer (some ⟨G, 0, none⟩)] w fun e w' => e = .returned (mustV (must wh b c)) ∧ Only Nil w w' := by
  by_cases he : c.empty = 0
  · by_cases hgo : c.kind = 4 ∧ c.traded = false ∧ wh = false
    · exact must_fok C G b c v1 v2 p6 p7 wh w h hg hc.side he hgo.1 hgo.2.1 hgo.2.2 HW
    · exact must_go C G b c v1 v2 p6 p7 wh w h hg hc.side he hgo hb hc.left.1 HW
  · obtain ⟨r, l, hd, hr, hv⟩ := hc.empty.resolve_left he
    rcases hc.side with hs | hs
    · by_cases hlt : r.hid < r.peak
      · exact must_fresh1a C G b c v1 v2 p6 p7 wh w h hg hb r l hd hr he hs hlt
      · exact must_fresh1b C G b c v1 v2 p6 p7 wh w h hg hb r l hd hr he hs hlt
    · by_cases hlt : r.hid < r.peak
      · exact must_fresh2a C G b c v1 v2 p6 p7 wh w h hg hb r l hd hr he hs hlt
      · exact must_fresh2b C G b c v1 v2 p6 p7 wh w h hg hb r l hd hr he hs hlt

end Ck
end Go.Proofs.Ytcnkbhgdcfckoaa
