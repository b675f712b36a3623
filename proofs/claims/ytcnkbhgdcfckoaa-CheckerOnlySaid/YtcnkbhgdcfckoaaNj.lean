/- The walk of the document's comes, when it goes on. -/
import Derived.Test.YtcnkbhgdcfckoaaNi
set_option linter.unusedVariables false
set_option linter.unusedSimpArgs false
namespace Go.Proofs.Ytcnkbhgdcfckoaa
open Go.RowKit
namespace Ck
theorem CmW.cell {w W : World} {T O R M : Nat} {b : Bk} {l : List Ev} {v1 v2 v3 : Value} {o : Co} (h : CmW w T O R b l v1 v2 v3 o W) {cs : Array Value} (hm : W.heap[M]? = some (.cells cs tR (0, 0))) (q1 : Off v1 b.buys M) (q2 : Off v2 b.sells M) (hM : w.heap.size ≤ M) (i : Nat) (u : Value) :
    CmW w T O R b l v1 v2 v3 o (W.setCell ⟨M, i, none⟩ u) := by
  have ho : Only (fun k => k = M) W (W.setCell ⟨M, i, none⟩ u) := (Only.refl (fun k => k = M) W).setCell (p := ⟨M, i, none⟩) (.inl rfl) u
  have hT : ∀ k, (fun k => k = M) k → ∃ t, Ty W k t ∧ t ≠ tEvt := fun k hk => ⟨tR, hk ▸ blk_ty hm, by decide⟩
  exact ⟨blk_far h.t (blk_ne h.t hm (by decide)) _, blk_far h.o (blk_ne h.o hm (by decide)) _, blk_far h.r (blk_ne h.r hm (by decide)) _, h.lb.off q1 ho, h.ls.off q2 ho, h.le.only ho hT, h.only.setCell (p := ⟨M, i, none⟩) (.inr hM) _, h.new⟩
theorem CmW.setB {w W : World} {T O R : Nat} {b b' : Bk} {l : List Ev} {v1 v2 v3 x y : Value} {o : Co} (h : CmW w T O R b l v1 v2 v3 o W) (h1 : LR W x b'.buys) (h2 : LR W y b'.sells) :
    CmW w T O R b' l x y v3 o (set6 W T (.int .i64 b'.cap) (.int .i64 b'.meet) x y (.int .u64 b'.high) (.int .u64 b'.seq)) := by
  have ho := set6_only W T (.int .i64 b'.cap) (.int .i64 b'.meet) x y (.int .u64 b'.high) (.int .u64 b'.seq)
  have hT : ∀ (T1 : Nat), T1 ≠ tTd → ∀ k, (fun k => k = T) k → ∃ t, Ty W k t ∧ t ≠ T1 := fun T1 hT1 k hk => ⟨tTd, hk ▸ blk_ty h.t, fun e => hT1 e.symm⟩
  exact ⟨set6_blk h.t _ _ _ _ _ _, ho.blk h.o (fun q => blk_ne h.o h.t (by decide) q), ho.blk h.r (fun q => h.new.2.2.1 q.symm),
    h1.only ho (hT tR (by decide)), h2.only ho (hT tR (by decide)), h.le.only ho (hT tEvt (by decide)), h.only.trans ho (fun k hk q => by have := h.new.1; omega), h.new⟩
theorem laysR' : Lays tR zR.row := fun W => by kernel_rfl
set_option maxHeartbeats 1600000 in
set_option maxRecDepth 100000 in
theorem comes_on (b : Bk) (l : List Ev) (v1 v2 v3 : Value) (o : Co) (w : World) (h1 : LR w v1 b.buys) (h2 : LR w v2 b.sells) (h3 : LE w v3 l) (hi : Iv iv0 100000 100000 (b, l) o) (hgo : ¬ (o.kind = 4 ∧ wholeR b o = false)) :
    Calls Try.prog 30 #[.agg (tdRow b v1 v2 v3), .agg (coRow o)] w (TdPost (comesR (b, l) o) w) := by
  have HE0 : Hid (comesR (b, l) o = endR (tradesR (todoR b o) (b, l) o).1 (tradesR (todoR b o) (b, l) o).2) := Lib.hid (by unfold comesR; rw [if_neg hgo])
  have HWy : Hid ((o.kind == 4) = false ∨ ((o.kind == 4) = true ∧ wholeR b o = true)) := Lib.hid (by
    by_cases q : o.kind = 4
    · refine .inr ⟨by simp [q], ?_⟩
      cases q2 : wholeR b o with
      | true => rfl
      | false => exact absurd ⟨q, q2⟩ hgo
    · exact .inl (by simp [q]))
  have HTr := Lib.hid (fun W (q1 : LR W v1 b.buys) (q2 : LR W v2 b.sells) (q3 : LE W v3 l) => tradesR_any q1 q2 q3 hi (by unfold iv0; omega) ⟨by omega, by omega⟩)
  have HIq := Lib.hid (trades_iv (todoR b o) hi)
  have HSm := Lib.hid (trades_same (todoR b o) (b, l) o)
  clear hgo
  have i1 := h1.isSl
  have i2 := h2.isSl
  have i3 := h3.isSl
  have HV0 := Lib.hid (cm_begin (o := o) h1 h2 h3)
  have HI := Lib.hid hi
  have hlf := hi.left.2
  have hlf0 := hi.left.1
  have HSd := Lib.hid hi.side
  have HWh := Lib.hid (fun W (q1 : LR W v1 b.buys) (q2 : LR W v2 b.sells) => wholeR_any b v1 v2 o W q1 q2 hi.ok hi.seq hi.meet hi.nb hi.ns hi.side hi.left)
  obtain ⟨A1, n1, c1, rfl⟩ := i1
  obtain ⟨A2, n2, c2, rfl⟩ := i2
  obtain ⟨A3, n3, c3, rfl⟩ := i3
  clear h1 h2 h3 hi
  go_enter Try.func30, Try.ntmps30
  go_upto_region 1 with fail
  generalize hW : World.alloc (World.alloc (World.alloc w _) _) _ = W0
  have hW' : (((w.alloc (.cells (tdRow b (.slice A1 n1 c1) (.slice A2 n2 c2) (.slice A3 n3 c3)) tTd)).alloc (.cells (coRow o) tCo)).alloc (.cells td0 tTd)) = W0 := hW
  rw [hW'] at HV0
  clear hW hW'
  obtain ⟨b0, b1, b2, b3, b4, b5, b6, bf, bl⟩ := td_cells HV0.out.t
  obtain ⟨o0, o1, o2, o3, o4, o5, o6, of, ol⟩ := co_cells HV0.out.o
  go_cut [15] from 6 to 95 (fun v15 wc => v15 = .bool false ∧ Hid (CmW w w.heap.size (w.heap.size + 1) (w.heap.size + 1 + 1) b l (.slice A1 n1 c1) (.slice A2 n2 c2) (.slice A3 n3 c3) o wc))
  case first =>
    have hwy := HWy.out
    clear HWy
    rcases hwy with k1 | ⟨k1, k2⟩
    · go_wp2
      go_meet
      case rel => exact ⟨rfl, HV0⟩
    · rw [k2] at HWh
      clear k2
      go_wp2_with fail
      refine (HWh.out _ HV0.out.lb HV0.out.ls).mono ?_
      rintro e w1 ⟨rfl, ho⟩
      go_wp2
      go_meet
      case rel => exact ⟨rfl, Lib.hid (HV0.out.nil ho)⟩
  case rest =>
    obtain ⟨rfl, HV1⟩ := hcut
    clear HV0 HWh HWy b0 b1 b2 b3 b4 b5 b6 bf bl o0 o1 o2 o3 o4 o5 o6 of ol
    obtain ⟨b0, b1, b2, b3, b4, b5, b6, bf, bl⟩ := td_cells HV1.out.t
    obtain ⟨o0, o1, o2, o3, o4, o5, o6, of, ol⟩ := co_cells HV1.out.o
    go_wp2_with fail
    refine (HTr.out _ HV1.out.lb HV1.out.ls HV1.out.le).mono ?_
    rintro e w2 ⟨x1, x2, x3, rfl, hx1, hx2, hx3, ho⟩
    obtain ⟨X1, m1, d1, rfl⟩ := hx1.isSl
    obtain ⟨X2, m2, d2, rfl⟩ := hx2.isSl
    obtain ⟨X3, m3, d3, rfl⟩ := hx3.isSl
    have HVa := Lib.hid (HV1.out.nil ho)
    have HVb := Lib.hid (HVa.out.setT hx1 hx2 hx3)
    have HV2 := Lib.hid (HVb.out.setO (tradesR (todoR b o) (b, l) o).2)
    clear ho HV1 HTr hx1 hx2 hx3 b0 b1 b2 b3 b4 b5 b6 bf bl o0 o1 o2 o3 o4 o5 o6 of ol
    generalize (tradesR (todoR b o) (b, l) o).2 = oq at *
    generalize (tradesR (todoR b o) (b, l) o).1 = tq at *
    obtain ⟨bq, lq⟩ := tq
    simp only at HVb HV2
    go_upto_region 4 with (first
      | (refine wpList_store_row rfl tTd (.tmp 2) (.tmp 27) rfl _ rfl (tdRow bq (.slice X1 m1 d1) (.slice X2 m2 d2) (.slice X3 m3 d3)) _ rfl _ HVa.out.t infoTd rfl (one_td _ ⟨_, _, _, rfl⟩ ⟨_, _, _, rfl⟩ ⟨_, _, _, rfl⟩) ?_)
      | (refine wpList_store_row rfl tCo (.tmp 3) (.tmp 28) rfl _ rfl (coRow oq) _ rfl _ HVb.out.o infoCo rfl (one_co _) ?_))
    simp only [Act.put, List.setIfInBounds_toArray, List.set_cons_zero, List.set_cons_succ]
    generalize hW : World.setRow _ _ _ = W4
    have hW' : (w2.setRow w.heap.size (tdRow bq (.slice X1 m1 d1) (.slice X2 m2 d2) (.slice X3 m3 d3))).setRow (w.heap.size + 1) (coRow oq) = W4 := hW
    rw [hW'] at HV2
    clear hW hW' HVa HVb
    obtain ⟨b0, b1, b2, b3, b4, b5, b6, bf, bl⟩ := td_cells HV2.out.t
    obtain ⟨o0, o1, o2, o3, o4, o5, o6, of, ol⟩ := co_cells HV2.out.o
    have HL1 := Lib.hid HV2.out.lb
    have HL2 := Lib.hid HV2.out.ls
    have HL3 := Lib.hid HV2.out.le
    have hq1 := HIq.out.left.1
    have hq2 := HIq.out.left.2
    by_cases hz : oq.left = 0
    · have HE : Hid (comesR (b, l) o = (bq, lq)) := Lib.hid (by rw [HE0.out]; unfold endR; rw [if_pos hz])
      have hz1 : (oq.left == 0) = true := by simp [hz]
      clear hz
      go_upto_region 5 with fail
      obtain ⟨hr1, hr2⟩ := HV2.out.ret (t := ((bq, lq) : Td)) HL1.out HL2.out HL3.out
      have HR1 := Lib.hid hr1
      have HR2 := Lib.hid hr2
      clear hr1 hr2
      go_wp2_with (refine wpList_store_row rfl tTd (.tmp 4) (.tmp 32) rfl _ rfl (tdRow (((bq, lq) : Td)).1 (.slice X1 m1 d1) (.slice X2 m2 d2) (.slice X3 m3 d3)) _ rfl _ HV2.out.r infoTd rfl (one_td _ ⟨_, _, _, rfl⟩ ⟨_, _, _, rfl⟩ ⟨_, _, _, rfl⟩) ?_)
      rw [HE.out]
      exact bodyPost_ret (retRow rfl _ _ _ _ rfl HR1.out rfl) rfl HR2.out
    · have hz1 : (oq.left == 0) = false := by simp [hz]
      by_cases hkk : oq.kind ≠ 1 ∧ oq.kind ≠ 5
      · have HE : Hid (comesR (b, l) o = tell (bq, lq) (evCancel oq.id oq.left 3)) := Lib.hid (by rw [HE0.out]; unfold endR; rw [if_neg hz, if_pos hkk])
        have hk1 : (oq.kind != 1) = true := by simp [hkk.1]
        have hk2 : (oq.kind != 5) = true := by simp [hkk.2]
        have HT := Lib.hid (tellR_any bq lq (evCancel oq.id oq.left 3) _ _ _ W4 HL1.out HL2.out HL3.out (Nat.le_trans HIq.out.len (by unfold iv0; omega)) HIq.out.seq)
        clear hz hkk
        go_wp2_with fail
        refine HT.out.mono ?_
        rintro e w5 ⟨x1, x2, x3, rfl, hx1, hx2, hx3, ho⟩
        obtain ⟨Y1, p1, f1, rfl⟩ := hx1.isSl
        obtain ⟨Y2, p2, f2, rfl⟩ := hx2.isSl
        obtain ⟨Y3, p3, f3, rfl⟩ := hx3.isSl
        have HV3 := Lib.hid (HV2.out.nil ho)
        have Hx1 := Lib.hid hx1
        have Hx2 := Lib.hid hx2
        have Hx3 := Lib.hid hx3
        clear ho HV2 HT hx1 hx2 hx3 b0 b1 b2 b3 b4 b5 b6 bf bl o0 o1 o2 o3 o4 o5 o6 of ol
        obtain ⟨hr1, hr2⟩ := HV3.out.ret (t := tell (bq, lq) (evCancel oq.id oq.left 3)) Hx1.out Hx2.out Hx3.out
        have HR1 := Lib.hid hr1
        have HR2 := Lib.hid hr2
        clear hr1 hr2
        go_wp2_with (refine wpList_store_row rfl tTd (.tmp 4) (.tmp 47) rfl _ rfl (tdRow (tell (bq, lq) (evCancel oq.id oq.left 3)).1 (.slice Y1 p1 f1) (.slice Y2 p2 f2) (.slice Y3 p3 f3)) _ rfl _ HV3.out.r infoTd rfl (one_td _ ⟨_, _, _, rfl⟩ ⟨_, _, _, rfl⟩ ⟨_, _, _, rfl⟩) ?_)
        rw [HE.out]
        exact bodyPost_ret (retRow rfl _ _ _ _ rfl HR1.out rfl) rfl HR2.out
      · have HE : Hid (comesR (b, l) o = (bq.set oq.side (enq oq.side (restR oq) (sideR bq oq.side)), lq)) := Lib.hid (by rw [HE0.out]; unfold endR; rw [if_neg hz, if_neg hkk])
        have HKy : Hid ((oq.kind != 1) = false ∨ ((oq.kind != 1) = true ∧ (oq.kind != 5) = false)) := Lib.hid (by
          by_cases q1 : oq.kind = 1
          · exact .inl (by simp [q1])
          · by_cases q5 : oq.kind = 5
            · exact .inr ⟨by simp [q1], by simp [q5]⟩
            · exact absurd ⟨q1, q5⟩ hkk)
        have HB1 : Hid (bq.buys.length ≤ 100000 ∧ bq.sells.length ≤ 100000) := Lib.hid ⟨HIq.out.nb, HIq.out.ns⟩
        have HSq := Lib.hid HIq.out.side
        have hl0 : 0 < oq.left := by omega
        clear hz hkk HIq HL1 HL2 HL3 HI
        go_upto_region 6 with fail
        go_cut [40] from 29 to 95 (fun v40 wc => v40 = .bool false ∧ Hid (CmW w w.heap.size (w.heap.size + 1) (w.heap.size + 1 + 1) bq lq (.slice X1 m1 d1) (.slice X2 m2 d2) (.slice X3 m3 d3) oq wc))
        case first =>
          have hky := HKy.out
          clear HKy
          rcases hky with k1 | ⟨k1, k2⟩
          all_goals
            go_wp2
            go_meet
            case rel => exact ⟨rfl, HV2⟩
        case rest =>
          obtain ⟨rfl, HV3⟩ := hcut
          clear HV2 HKy b0 b1 b2 b3 b4 b5 b6 bf bl o0 o1 o2 o3 o4 o5 o6 of ol
          obtain ⟨b0, b1, b2, b3, b4, b5, b6, bf, bl⟩ := td_cells HV3.out.t
          obtain ⟨o0, o1, o2, o3, o4, o5, o6, of, ol⟩ := co_cells HV3.out.o
          go_upto_region 9 with (refine wpList_alloc_store rfl tR rfl 5 rfl zR.row laysR' rfl (.tmp 60) rfl rfl ({ id := oq.id, mem := oq.mem, typ := oq.kind, price := oq.price, vis := oq.left, hid := 0, peak := oq.peak } : Rs).row rfl rfl infoRs rfl (one_row _) ?_)
          simp only [Act.put, List.setIfInBounds_toArray, List.set_cons_zero, List.set_cons_succ]
          generalize hW : World.alloc wc _ = W5
          have hW' : wc.alloc (.cells ({ id := oq.id, mem := oq.mem, typ := oq.kind, price := oq.price, vis := oq.left, hid := 0, peak := oq.peak } : Rs).row tR) = W5 := hW
          have HM0 : Hid (W5.heap[wc.heap.size]? = some (.cells ({ id := oq.id, mem := oq.mem, typ := oq.kind, price := oq.price, vis := oq.left, hid := 0, peak := oq.peak } : Rs).row tR (0, 0))) := Lib.hid (by rw [← hW']; exact blk_new _ _)
          have HV4 : Hid (CmW w w.heap.size (w.heap.size + 1) (w.heap.size + 1 + 1) bq lq (.slice X1 m1 d1) (.slice X2 m2 d2) (.slice X3 m3 d3) oq W5) := Lib.hid (by rw [← hW']; exact HV3.out.nil ((Only.refl _ _).alloc _))
          have HO1 := Lib.hid (HV3.out.lb.off_new (Nat.le_refl _))
          have HO2 := Lib.hid (HV3.out.ls.off_new (Nat.le_refl _))
          have HMz := Lib.hid HV3.out.only.size
          clear hW hW' HV3 b0 b1 b2 b3 b4 b5 b6 bf bl o0 o1 o2 o3 o4 o5 o6 of ol
          generalize wc.heap.size = M at *
          obtain ⟨b0, b1, b2, b3, b4, b5, b6, bf, bl⟩ := td_cells HV4.out.t
          obtain ⟨o0, o1, o2, o3, o4, o5, o6, of, ol⟩ := co_cells HV4.out.o
          obtain ⟨y0, y1, y2, y3, y4, y5, y6, yf, yl⟩ := rs_cellsR HM0.out
          simp only at y0 y1 y2 y3 y4 y5 y6
          go_upto_region 9 with fail
          go_cut [70] from 61 to 95 (fun v70 wc => ∃ tb, v70 = .bool tb ∧ Hid (tb = decide (0 < oq.peak ∧ oq.peak < oq.left)) ∧ Hid (CmW w w.heap.size (w.heap.size + 1) (w.heap.size + 1 + 1) bq lq (.slice X1 m1 d1) (.slice X2 m2 d2) (.slice X3 m3 d3) oq wc) ∧ Hid (wc.heap[M]? = some (.cells ({ id := oq.id, mem := oq.mem, typ := oq.kind, price := oq.price, vis := oq.left, hid := 0, peak := oq.peak } : Rs).row tR (0, 0))))
          case first =>
            by_cases q1 : 0 < oq.peak
            · have e1 : decide (0 < oq.peak) = true := by simp [q1]
              by_cases q2 : oq.peak < oq.left
              · have e2 : decide (oq.peak < oq.left) = true := by simp [q2]
                go_wp2
                go_meet
                case rel => exact ⟨decide (0 < oq.peak ∧ oq.peak < oq.left), by simp [q1, q2] <;> omega, Lib.hid rfl, HV4, HM0⟩
              · have e2 : decide (oq.peak < oq.left) = false := by simp; omega
                go_wp2
                go_meet
                case rel => exact ⟨decide (0 < oq.peak ∧ oq.peak < oq.left), by simp [q1, q2] <;> omega, Lib.hid rfl, HV4, HM0⟩
            · have e1 : decide (0 < oq.peak) = false := by simp; omega
              go_wp2
              go_meet
              case rel => exact ⟨decide (0 < oq.peak ∧ oq.peak < oq.left), by simp [q1] <;> omega, Lib.hid rfl, HV4, HM0⟩
          case rest =>
            obtain ⟨tb, rfl, HTb, HV5, HM5⟩ := hcut
            clear HV4 HM0 b0 b1 b2 b3 b4 b5 b6 bf bl o0 o1 o2 o3 o4 o5 o6 of ol y0 y1 y2 y3 y4 y5 y6 yf yl
            obtain ⟨b0, b1, b2, b3, b4, b5, b6, bf, bl⟩ := td_cells HV5.out.t
            obtain ⟨o0, o1, o2, o3, o4, o5, o6, of, ol⟩ := co_cells HV5.out.o
            obtain ⟨y0, y1, y2, y3, y4, y5, y6, yf, yl⟩ := rs_cellsR HM5.out
            simp only at y0 y1 y2 y3 y4 y5 y6
            go_upto_if 70 with fail
            go_cut [5] from 61 to 95 (fun v5 wc => v5 = .pointer (some ⟨M, 0, none⟩) ∧ Hid (CmW w w.heap.size (w.heap.size + 1) (w.heap.size + 1 + 1) bq lq (.slice X1 m1 d1) (.slice X2 m2 d2) (.slice X3 m3 d3) oq wc) ∧ Hid (wc.heap[M]? = some (.cells (restR oq).row tR (0, 0))))
            case first =>
              cases tb with
              | true =>
                have q : 0 < oq.peak ∧ oq.peak < oq.left := of_decide_eq_true HTb.out.symm
                have HRr : Hid (restR oq = ⟨oq.id, oq.mem, oq.kind, oq.price, oq.peak, oq.left - oq.peak, oq.peak⟩) := Lib.hid (by unfold restR; rw [if_pos q])
                have hp1 := q.1
                have hp2 := q.2
                have e1 : decide (0 < oq.peak) = true := by simp [hp1]
                have e2 : decide (oq.peak < oq.left) = true := by simp [hp2]
                have hwr : IntKind.u64.wrap (oq.left - oq.peak) = oq.left - oq.peak := by rw [IntKind.wrap_u64]; omega
                have hwne : w.heap.size + 1 ≠ M := blk_ne HV5.out.o HM5.out (by decide)
                clear q
                go_upto_region 10 with fail
                go_region_law (fail)
                all_goals
                  go_wp2
                  go_meet
                  case rel =>
                    refine ⟨rfl, Lib.hid ?_, Lib.hid ?_⟩
                    · exact ((HV5.out.cell HM5.out HO1.out HO2.out HMz.out 4 _).cell (blk_set HM5.out 4 _) HO1.out HO2.out HMz.out 5 _).nil (Only.refl _ _).drew
                    · rw [HRr.out]
                      exact blk_drew (blk_set (blk_set HM5.out 4 _) 5 _)
              | false =>
                have q : ¬ (0 < oq.peak ∧ oq.peak < oq.left) := of_decide_eq_false HTb.out.symm
                have HRr : Hid (restR oq = ⟨oq.id, oq.mem, oq.kind, oq.price, oq.left, 0, oq.peak⟩) := Lib.hid (by unfold restR; rw [if_neg q])
                clear q
                go_wp2
                go_meet
                case rel =>
                  refine ⟨rfl, HV5, Lib.hid ?_⟩
                  rw [HRr.out]
                  exact HM5.out
            case rest =>
              obtain ⟨rfl, HV6, HM6⟩ := hcut
              clear HV5 HM5 HO1 HO2 HMz b0 b1 b2 b3 b4 b5 b6 bf bl o0 o1 o2 o3 o4 o5 o6 of ol y0 y1 y2 y3 y4 y5 y6 yf yl
              obtain ⟨b0, b1, b2, b3, b4, b5, b6, bf, bl⟩ := td_cells HV6.out.t
              obtain ⟨o0, o1, o2, o3, o4, o5, o6, of, ol⟩ := co_cells HV6.out.o
              obtain ⟨y0, y1, y2, y3, y4, y5, y6, yf, yl⟩ := rs_cellsR HM6.out
              obtain ⟨vs, hvs, hve, hcs⟩ := side_far HV6.out.lb HV6.out.ls HSq.out
              clear hve
              have HEq := Lib.hid (fun X (hx : Only Nil wc X) => enqueued_any vs (sideR bq oq.side) oq.side (restR oq) X (hvs.nil hx) (side_le HB1.out.1 HB1.out.2 (by omega) (by omega)))
              have HWs := Lib.hid (fun (vl : Value) X (hx : Only Nil wc X) (hvl : LR X vl (enq oq.side (restR oq) (sideR bq oq.side))) => with_set HSq.out (HV6.out.lb.nil hx) (HV6.out.ls.nil hx) hvl)
              have HCs := Lib.hid hcs
              obtain ⟨As, ns, cs', rfl⟩ := hvs.isSl
              clear hcs hvs
              go_upto_region 11 with fail
              go_cut [4] from 61 to 95 (fun v4 wd => v4 = .pointer (some ⟨w.heap.size + 1 + 1, 0, none⟩) ∧ Hid (∃ x y, IsSl x ∧ IsSl y ∧ CmW w w.heap.size (w.heap.size + 1) (w.heap.size + 1 + 1) (bq.set oq.side (enq oq.side (restR oq) (sideR bq oq.side))) lq x y (.slice X3 m3 d3) oq wd))
              case first =>
                have HSof := Lib.hid (fun X (hx : Only Nil wc X) => And.intro (td_cells (hx.blk HV6.out.t (fun q => q))) (And.intro (co_cells (hx.blk HV6.out.o (fun q => q))) (rs_cellsR (hx.blk HM6.out (fun q => q)))))
                clear b0 b1 b2 b3 b4 b5 b6 bf bl o0 o1 o2 o3 o4 o5 o6 of ol y0 y1 y2 y3 y4 y5 y6 yf yl
                generalize restR oq = rr at *
                refine wp_region_Z (fun w' => (w'.cell? ⟨w.heap.size, 0, none⟩ = some (.int .i64 bq.cap) ∧ w'.cell? ⟨w.heap.size, 1, none⟩ = some (.int .i64 bq.meet) ∧ w'.cell? ⟨w.heap.size, 2, none⟩ = some (.slice X1 m1 d1) ∧ w'.cell? ⟨w.heap.size, 3, none⟩ = some (.slice X2 m2 d2) ∧ w'.cell? ⟨w.heap.size, 4, none⟩ = some (.int .u64 bq.high) ∧ w'.cell? ⟨w.heap.size, 5, none⟩ = some (.int .u64 bq.seq) ∧ w'.cell? ⟨w.heap.size, 6, none⟩ = some (.slice X3 m3 d3) ∧ (∀ k, w'.frozen? ⟨w.heap.size, k, none⟩ = false) ∧ w.heap.size < w'.heap.size) ∧ (w'.cell? ⟨(w.heap.size + 1), 0, none⟩ = some (.int .u64 oq.id) ∧ w'.cell? ⟨(w.heap.size + 1), 1, none⟩ = some (.int .u64 oq.left) ∧ w'.cell? ⟨(w.heap.size + 1), 2, none⟩ = some (.int .u64 oq.peak) ∧ w'.cell? ⟨(w.heap.size + 1), 3, none⟩ = some (.int .u32 oq.mem) ∧ w'.cell? ⟨(w.heap.size + 1), 4, none⟩ = some (.int .i64 oq.side) ∧ w'.cell? ⟨(w.heap.size + 1), 5, none⟩ = some (.int .i64 oq.kind) ∧ w'.cell? ⟨(w.heap.size + 1), 6, none⟩ = some (.int .i64 oq.price) ∧ (∀ k, w'.frozen? ⟨(w.heap.size + 1), k, none⟩ = false) ∧ (w.heap.size + 1) < w'.heap.size) ∧ (w'.cell? ⟨M, 0, none⟩ = some (.int .u64 rr.id) ∧ w'.cell? ⟨M, 1, none⟩ = some (.int .u32 rr.mem) ∧ w'.cell? ⟨M, 2, none⟩ = some (.int .i64 rr.typ) ∧ w'.cell? ⟨M, 3, none⟩ = some (.int .i64 rr.price) ∧ w'.cell? ⟨M, 4, none⟩ = some (.int .u64 rr.vis) ∧ w'.cell? ⟨M, 5, none⟩ = some (.int .u64 rr.hid) ∧ w'.cell? ⟨M, 6, none⟩ = some (.int .u64 rr.peak) ∧ (∀ k, w'.frozen? ⟨M, k, none⟩ = false) ∧ M < w'.heap.size)) 15 (by kernel_rfl) ?_
                refine' anyZ_take (i := 0) (oi := _) (v := _) rfl (by decide) (by kernel_rfl) (by kernel_rfl) (by kernel_rfl) (by kernel_rfl) (fun _ _ _ h => h) (HSof.out _ (Only.refl _ _).drew) (Or.inl ⟨by rfl, ?hy0⟩) ?rest0
                case hy0 =>
                  intro w hSw
                  (try dsimp only at hSw)
                  go_simp
                  try with_reducible rfl
                simp only [Act.put, List.setIfInBounds_toArray, List.set_cons_zero, List.set_cons_succ]
                refine' anyZ_take (i := 1) (oi := _) (v := _) rfl (by decide) (by kernel_rfl) (by kernel_rfl) (by kernel_rfl) (by kernel_rfl) (fun _ _ _ h => h) (HSof.out _ (Only.refl _ _).drew) (Or.inl ⟨by rfl, ?hy1⟩) ?rest1
                case hy1 =>
                  intro w hSw
                  (try dsimp only at hSw)
                  go_simp
                  try with_reducible rfl
                simp only [Act.put, List.setIfInBounds_toArray, List.set_cons_zero, List.set_cons_succ]
                refine' anyZ_take (i := 2) (oi := _) (v := _) rfl (by decide) (by kernel_rfl) (by kernel_rfl) (by kernel_rfl) (by kernel_rfl) (fun _ _ _ h => h) (HSof.out _ (Only.refl _ _).drew) (Or.inl ⟨by rfl, ?hy2⟩) ?rest2
                case hy2 =>
                  intro w hSw
                  (try dsimp only at hSw)
                  go_simp
                  try with_reducible rfl
                simp only [Act.put, List.setIfInBounds_toArray, List.set_cons_zero, List.set_cons_succ]
                refine' anyZ_take (i := 3) (oi := _) (v := _) rfl (by decide) (by kernel_rfl) (by kernel_rfl) (by kernel_rfl) (by kernel_rfl) (fun _ _ _ h => h) (HSof.out _ (Only.refl _ _).drew) (Or.inl ⟨by rfl, ?hy3⟩) ?rest3
                case hy3 =>
                  intro w hSw
                  (try dsimp only at hSw)
                  go_simp
                  try with_reducible rfl
                simp only [Act.put, List.setIfInBounds_toArray, List.set_cons_zero, List.set_cons_succ]
                refine' anyZ_take (i := 4) (oi := _) (v := _) rfl (by decide) (by kernel_rfl) (by kernel_rfl) (by kernel_rfl) (by kernel_rfl) (fun _ _ _ h => h) (HSof.out _ (Only.refl _ _).drew) (Or.inl ⟨by rfl, ?hy4⟩) ?rest4
                case hy4 =>
                  intro w hSw
                  (try dsimp only at hSw)
                  go_simp
                  try with_reducible rfl
                simp only [Act.put, List.setIfInBounds_toArray, List.set_cons_zero, List.set_cons_succ]
                refine' anyZ_take (i := 5) (oi := _) (v := _) rfl (by decide) (by kernel_rfl) (by kernel_rfl) (by kernel_rfl) (by kernel_rfl) (fun _ _ _ h => h) (HSof.out _ (Only.refl _ _).drew) (Or.inl ⟨by rfl, ?hy5⟩) ?rest5
                case hy5 =>
                  intro w hSw
                  (try dsimp only at hSw)
                  go_simp
                  try with_reducible rfl
                simp only [Act.put, List.setIfInBounds_toArray, List.set_cons_zero, List.set_cons_succ]
                refine' anyZ_take (i := 6) (oi := _) (v := _) rfl (by decide) (by kernel_rfl) (by kernel_rfl) (by kernel_rfl) (by kernel_rfl) (fun _ _ _ h => h) (HSof.out _ (Only.refl _ _).drew) (Or.inl ⟨by rfl, ?hy6⟩) ?rest6
                case hy6 =>
                  intro w hSw
                  (try dsimp only at hSw)
                  go_simp
                  try with_reducible rfl
                simp only [Act.put, List.setIfInBounds_toArray, List.set_cons_zero, List.set_cons_succ]
                refine' anyZ_take (i := 7) (oi := _) (v := _) rfl (by decide) (by kernel_rfl) (by kernel_rfl) (by kernel_rfl) (by kernel_rfl) (fun _ _ _ h => h) (HSof.out _ (Only.refl _ _).drew) (Or.inl ⟨by rfl, ?hy7⟩) ?rest7
                case hy7 =>
                  intro w hSw
                  (try dsimp only at hSw)
                  go_simp
                  try with_reducible rfl
                simp only [Act.put, List.setIfInBounds_toArray, List.set_cons_zero, List.set_cons_succ]
                refine' anyZ_take (i := 8) (oi := _) (v := _) rfl (by decide) (by kernel_rfl) (by kernel_rfl) (by kernel_rfl) (by kernel_rfl) (fun _ _ _ h => h) (HSof.out _ (Only.refl _ _).drew) (Or.inl ⟨by rfl, ?hy8⟩) ?rest8
                case hy8 =>
                  intro w hSw
                  (try dsimp only at hSw)
                  go_simp
                  try with_reducible rfl
                simp only [Act.put, List.setIfInBounds_toArray, List.set_cons_zero, List.set_cons_succ]
                refine' anyZ_take (i := 9) (oi := _) (v := _) rfl (by decide) (by kernel_rfl) (by kernel_rfl) (by kernel_rfl) (by kernel_rfl) (fun _ _ _ h => h) (HSof.out _ (Only.refl _ _).drew) (Or.inl ⟨by rfl, ?hy9⟩) ?rest9
                case hy9 =>
                  intro w hSw
                  (try dsimp only at hSw)
                  go_simp
                  try with_reducible rfl
                simp only [Act.put, List.setIfInBounds_toArray, List.set_cons_zero, List.set_cons_succ]
                refine' anyZ_take (i := 11) (oi := _) (v := _) rfl (by decide) (by kernel_rfl) (by kernel_rfl) (by kernel_rfl) (by kernel_rfl) (fun _ _ _ h => h) (HSof.out _ (Only.refl _ _).drew) (Or.inl ⟨by rfl, ?hy11⟩) ?rest11
                case hy11 =>
                  intro w hSw
                  (try dsimp only at hSw)
                  go_simp
                  try with_reducible rfl
                simp only [Act.put, List.setIfInBounds_toArray, List.set_cons_zero, List.set_cons_succ]
                refine anyZ_one (i := 10) (by kernel_rfl) rfl (fun K hK => ?_)
                go_simp
                go_at_call 29
                refine (HCs.out _).mono ?_
                rintro e wg1 ⟨rfl, ho1⟩
                have HO1 := Lib.hid ((Only.refl Nil wc).drew.trans ho1 (fun _ _ q => q))
                refine hK.out _ _ (fun _ => HSof.out _ HO1.out) (fun _ => ?_)
                clear hK K ho1
                try simp only [Act.put, List.setIfInBounds_toArray, List.set_cons_zero, List.set_cons_succ]
                refine anyZ_one (i := 12) (by kernel_rfl) rfl (fun K hK => ?_)
                go_simp
                go_at_call 46
                refine (HEq.out _ HO1.out).mono ?_
                rintro e wg2 ⟨⟨vl, rfl, hlr, hfr⟩, ho2⟩
                have HO2 := Lib.hid (HO1.out.trans ho2 (fun _ _ q => q))
                have HLl := Lib.hid hlr
                obtain ⟨Al, nl, cl, rfl⟩ := hlr.isSl
                refine hK.out _ _ (fun _ => HSof.out _ HO2.out) (fun _ => ?_)
                clear hK K ho2 hlr hfr
                try simp only [Act.put, List.setIfInBounds_toArray, List.set_cons_zero, List.set_cons_succ]
                refine anyZ_one (i := 13) (by kernel_rfl) rfl (fun K hK => ?_)
                go_simp
                go_at_call 27
                obtain ⟨x, y, ix, iy, hwc⟩ := HWs.out _ _ HO2.out HLl.out
                obtain ⟨Ax, nx, cx, rfl⟩ := ix
                obtain ⟨Ay, ny, cy, rfl⟩ := iy
                refine (hwc _ (Only.refl _ _)).mono ?_
                rintro e wh ⟨rfl, hx, hy, hoh⟩
                have HV8 := Lib.hid ((HV6.out.nil HO2.out).nil hoh)
                have HX := Lib.hid hx
                have HY := Lib.hid hy
                have HO3 := Lib.hid (HO2.out.trans hoh (fun _ _ q => q))
                refine hK.out _ _ (fun _ => HSof.out _ HO3.out) (fun _ => ?_)
                clear hK K hoh hx hy hwc
                unfold bkRow
                try simp only [Act.put, List.setIfInBounds_toArray, List.set_cons_zero, List.set_cons_succ]
                obtain ⟨z0, z1, z2, z3, z4, z5, z6, zf, zl⟩ := td_cells HV8.out.t
                refine anyZ_one (i := 14) (by kernel_rfl) rfl (fun K hK => ?_)
                go_simp
                refine hK.out _ _ (fun _ => HSof.out _ HO3.out) (fun _ => ?_)
                clear hK K
                try simp only [Act.put, List.setIfInBounds_toArray, List.set_cons_zero, List.set_cons_succ]
                refine anyZ_one (i := 15) (by kernel_rfl) rfl (fun K hK => ?_)
                go_simp
                refine hK.out _ _ (fun q => absurd rfl q) (fun _ => ?_)
                clear hK K
                try simp only [Act.put, List.setIfInBounds_toArray, List.set_cons_zero, List.set_cons_succ]
                refine anyZ_done (by kernel_rfl) ?_ _
                go_wp2
                go_meet
                case rel => exact ⟨rfl, Lib.hid ⟨_, _, ⟨_, _, _, rfl⟩, ⟨_, _, _, rfl⟩, HV8.out.setB HX.out HY.out⟩⟩
              case rest =>
                obtain ⟨rfl, HCt⟩ := hcut
                obtain ⟨x, y, ix, iy, hst⟩ := HCt.out
                obtain ⟨Ax, nx, cx, rfl⟩ := ix
                obtain ⟨Ay, ny, cy, rfl⟩ := iy
                have HV7 := Lib.hid hst
                have HL1 := Lib.hid hst.lb
                have HL2 := Lib.hid hst.ls
                have HL3 := Lib.hid hst.le
                clear HCt hst HV6 HM6 HEq HWs HCs
                obtain ⟨b0, b1, b2, b3, b4, b5, b6, bf, bl⟩ := td_cells HV7.out.t
                obtain ⟨o0, o1, o2, o3, o4, o5, o6, of, ol⟩ := co_cells HV7.out.o
                obtain ⟨hr1, hr2⟩ := HV7.out.ret (t := ((bq.set oq.side (enq oq.side (restR oq) (sideR bq oq.side)), lq) : Td)) HL1.out HL2.out HL3.out
                have HR1 := Lib.hid hr1
                have HR2 := Lib.hid hr2
                clear hr1 hr2
                go_wp2_with (refine wpList_store_row rfl tTd (.tmp 4) (.tmp 95) rfl _ rfl (tdRow (((bq.set oq.side (enq oq.side (restR oq) (sideR bq oq.side)), lq) : Td)).1 (.slice Ax nx cx) (.slice Ay ny cy) (.slice X3 m3 d3)) _ rfl _ HV7.out.r infoTd rfl (one_td _ ⟨_, _, _, rfl⟩ ⟨_, _, _, rfl⟩ ⟨_, _, _, rfl⟩) ?_)
                rw [HE.out]
                exact bodyPost_ret (retRow rfl _ _ _ _ rfl HR1.out rfl) rfl HR2.out
end Ck
end Go.Proofs.Ytcnkbhgdcfckoaa
