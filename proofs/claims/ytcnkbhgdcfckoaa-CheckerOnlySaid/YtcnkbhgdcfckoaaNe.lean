/- The walk of the document's step: a trade that leaves some of what is shown. -/
import Derived.Test.YtcnkbhgdcfckoaaNc
set_option linter.unusedVariables false
set_option linter.unusedSimpArgs false
namespace Go.Proofs.Ytcnkbhgdcfckoaa
open Go.RowKit
namespace Ck
set_option maxHeartbeats 1600000 in
set_option maxRecDepth 100000 in
theorem step_more (b : Bk) (l : List Ev) (v1 v2 v3 : Value) (o : Co) (m : Rs) (r : List Rs) (w : World) (h1 : LR w v1 b.buys) (h2 : LR w v2 b.sells) (h3 : LE w v3 l) (hl : l.length ≤ 100000000000) (hq : 0 ≤ b.seq ∧ b.seq < 18446744073709551616) (hn : (m :: r).length ≤ 1000000) (hs : o.side = 1 ∨ o.side = 2) (hd : sideR b (3 - o.side) = m :: r) (hm : OkR m) (hlf : 1 ≤ o.left ∧ o.left ≤ 4294967295) (ho : ownR b o m = false) (hmore : 0 < m.vis - (if m.vis < o.left then m.vis else o.left)) :
    Calls Try.prog 64 #[.agg (tdRow b v1 v2 v3), .agg (coRow o)] w (StepPost (stepR (b, l) o).1 (stepR (b, l) o).2 w) := by
  have HEt := Lib.hid (step_trade_eq (l := l) hd ho)
  obtain ⟨q, hqq⟩ : ∃ q, q = if m.vis < o.left then m.vis else o.left := ⟨_, rfl⟩
  have HQq := Lib.hid hqq
  have hq1 : 1 ≤ q := by have := hm.vis; rw [hqq]; split <;> omega
  have hq2 : q ≤ m.vis := by rw [hqq]; split <;> omega
  have hq3 : q ≤ o.left := by rw [hqq]; split <;> omega
  have HQ2 := Lib.hid hq
  have HOw : Hid ((m.mem != 0) = false ∨ ((m.mem != 0) = true ∧ (m.mem == o.mem) = false) ∨ ((m.mem != 0) = true ∧ (m.mem == o.mem) = true ∧ (b.meet != 0) = false)) := Lib.hid (by
    unfold ownR at ho
    cases e1 : (m.mem != 0) <;> cases e2 : (m.mem == o.mem) <;> cases e3 : (b.meet != 0) <;> simp_all)
  replace hmore : 0 < m.vis - q := by rw [hqq]; exact hmore
  have HE := Lib.hid (HEt.out.trans (trade_eq_more hqq hmore))
  clear HEt
  clear hqq ho hq
  obtain ⟨vf, hvf, hve, hc⟩ := side_far h1 h2 (s := 3 - o.side) (by omega)
  clear hve
  rw [hd] at hvf
  obtain ⟨Af, cf, rfl, _, _⟩ := hvf.sl
  have HWo := Lib.hid (fun W ho => without_any _ (m :: r) m.id W (hvf.nil (w1 := W) ho) hn)
  obtain ⟨g, off, rfl, _, _, ha⟩ := hvf.get (i := 0) (r := m) rfl
  have HA := Lib.hid (fun W (ho : Only Nil w W) => (hvf.nil ho).get (i := 0) (r := m) rfl)
  have HNw : Hid ((without (m :: r) m.id).length ≤ 1000000) := Lib.hid (Nat.le_trans (List.length_filter_le _ _) hn)
  have hs1 : 1 ≤ o.side := by omega
  have hs2 : o.side ≤ 2 := by omega
  have i1 := h1.isSl
  have i2 := h2.isSl
  have i3 := h3.isSl
  have hm1 := hm.vis
  have hm2 := hm.hid
  have hm3 := hm.sum
  have hl1 := hlf.1
  have hl2 := hlf.2
  have hni : (0 : Int) < ((m :: r).length : Int) := by simp
  have hnn : 0 < (m :: r).length := by simp
  have HC := Lib.hid hc
  have HV0 := Lib.hid (st_begin (o := o) h1 h2 h3)
  have HS := Lib.hid hs
  have HD := Lib.hid hd
  obtain ⟨A1, n1, c1, rfl⟩ := i1
  obtain ⟨A2, n2, c2, rfl⟩ := i2
  obtain ⟨A3, n3, c3, rfl⟩ := i3
  have HN := Lib.hid hn
  generalize (m :: r).length = N at *
  clear h1 h2 h3 hs hd hc hvf ha hn hm hlf
  go_enter Try.func64, Try.ntmps64
  go_upto_region 1 with fail
  generalize hW : World.alloc (World.alloc (World.alloc (World.alloc w _) _) _) _ = W0
  have hW' : ((((w.alloc (.cells (tdRow b (.slice A1 n1 c1) (.slice A2 n2 c2) (.slice A3 n3 c3)) tTd)).alloc (.cells (coRow o) tCo)).alloc (.cells td0 tTd)).alloc (.cells (coRow zCo) tCo)) = W0 := hW
  rw [hW'] at HV0
  clear hW hW'
  obtain ⟨b0, b1, b2, b3, b4, b5, b6, bf, bl⟩ := td_cells HV0.out.t
  obtain ⟨o0, o1, o2, o3, o4, o5, o6, of, ol⟩ := co_cells HV0.out.o
  go_wp2_with fail
  refine (HC.out _).mono ?_
  rintro e w1 ⟨rfl, ho⟩
  have HV1 := Lib.hid (HV0.out.nil ho)
  clear ho HV0 HC b0 b1 b2 b3 b4 b5 b6 bf bl o0 o1 o2 o3 o4 o5 o6 of ol
  obtain ⟨b0, b1, b2, b3, b4, b5, b6, bf, bl⟩ := td_cells HV1.out.t
  obtain ⟨o0, o1, o2, o3, o4, o5, o6, of, ol⟩ := co_cells HV1.out.o
  obtain ⟨g', off', e2, _, _, ha⟩ := HA.out w1 HV1.out.only
  injection e2 with e2
  injection e2 with e2 e3 _
  subst e2; subst e3
  have a0 := ha.c0
  have a1 := ha.c1
  have a2 := ha.c2
  have a3 := ha.c3
  have a4 := ha.c4
  have a5 := ha.c5
  have a6 := ha.c6
  have lg := ha.lt
  simp only [Nat.zero_mul, Nat.add_zero] at a0 a1 a2 a3 a4 a5 a6
  go_upto_region 4 with (refine wpList_alloc_store rfl tR rfl 8 rfl zR.row laysR rfl (.tmp 21) rfl rfl m.row rfl rfl infoRs rfl (one_row _) ?_)
  simp only [Act.put, List.setIfInBounds_toArray, List.set_cons_zero, List.set_cons_succ]
  generalize hW : World.alloc w1 _ = W2
  have hW' : w1.alloc (.cells m.row tR) = W2 := hW
  have HV2 : Hid (StM w w.heap.size (w.heap.size + 1) (w.heap.size + 1 + 1) (w.heap.size + 1 + 1 + 1) w1.heap.size b l (.slice A1 n1 c1) (.slice A2 n2 c2) (.slice A3 n3 c3) o m W2) := Lib.hid (by
    rw [← hW']
    exact ⟨HV1.out.alloc _, blk_new _ _, HV1.out.only.size, HV1.out.lb.off_new (Nat.le_refl _), HV1.out.ls.off_new (Nat.le_refl _)⟩)
  clear hW hW' HV1 a0 a1 a2 a3 a4 a5 a6 lg ha b0 b1 b2 b3 b4 b5 b6 bf bl o0 o1 o2 o3 o4 o5 o6 of ol
  generalize w1.heap.size = M at *
  obtain ⟨b0, b1, b2, b3, b4, b5, b6, bf, bl⟩ := td_cells HV2.out.st.t
  obtain ⟨o0, o1, o2, o3, o4, o5, o6, of, ol⟩ := co_cells HV2.out.st.o
  obtain ⟨m0, m1, m2, m3, m4, m5, m6, mf, ml⟩ := rs_cellsR HV2.out.m
  go_cut [38] from 12 to 172 (fun v38 wc => v38 = .bool false ∧ Hid (StM w w.heap.size (w.heap.size + 1) (w.heap.size + 1 + 1) (w.heap.size + 1 + 1 + 1) M b l (.slice A1 n1 c1) (.slice A2 n2 c2) (.slice A3 n3 c3) o m wc))
  case first =>
    have how := HOw.out
    clear HOw
    rcases how with k1 | ⟨k1, k2⟩ | ⟨k1, k2, k3⟩
    all_goals
      go_wp2
      go_meet
      case rel => exact ⟨rfl, HV2⟩
  case rest =>
    obtain ⟨rfl, HV3⟩ := hcut
    clear HV2 HOw b0 b1 b2 b3 b4 b5 b6 bf bl o0 o1 o2 o3 o4 o5 o6 of ol m0 m1 m2 m3 m4 m5 m6 mf ml
    obtain ⟨b0, b1, b2, b3, b4, b5, b6, bf, bl⟩ := td_cells HV3.out.st.t
    obtain ⟨o0, o1, o2, o3, o4, o5, o6, of, ol⟩ := co_cells HV3.out.st.o
    obtain ⟨m0, m1, m2, m3, m4, m5, m6, mf, ml⟩ := rs_cellsR HV3.out.m
    go_upto_if 89 with fail
    go_cut [10] from 12 to 172 (fun v10 wc => v10 = .int .u64 q ∧ Hid (StM w w.heap.size (w.heap.size + 1) (w.heap.size + 1 + 1) (w.heap.size + 1 + 1 + 1) M b l (.slice A1 n1 c1) (.slice A2 n2 c2) (.slice A3 n3 c3) o m wc))
    case first =>
      by_cases hlt : m.vis < o.left
      · have HX : Hid (q = m.vis) := Lib.hid (by rw [HQq.out, if_pos hlt])
        go_wp2
        go_meet
        case rel => exact ⟨by rw [HX.out], HV3⟩
      · have HX : Hid (q = o.left) := Lib.hid (by rw [HQq.out, if_neg hlt])
        go_wp2
        go_meet
        case rel => exact ⟨by rw [HX.out], HV3⟩
    case rest =>
      obtain ⟨rfl, HV4⟩ := hcut
      clear HV3 b0 b1 b2 b3 b4 b5 b6 bf bl o0 o1 o2 o3 o4 o5 o6 of ol m0 m1 m2 m3 m4 m5 m6 mf ml
      obtain ⟨b0, b1, b2, b3, b4, b5, b6, bf, bl⟩ := td_cells HV4.out.st.t
      obtain ⟨o0, o1, o2, o3, o4, o5, o6, of, ol⟩ := co_cells HV4.out.st.o
      obtain ⟨m0, m1, m2, m3, m4, m5, m6, mf, ml⟩ := rs_cellsR HV4.out.m
      have HTl3 := Lib.hid (fun W hW => tell_any b l (evTrade o m q) (.slice A1 n1 c1) (.slice A2 n2 c2) (.slice A3 n3 c3) W ⟨_, _, _, rfl⟩ ⟨_, _, _, rfl⟩ hW (by omega) HQ2.out)
      go_wp2_with fail
      refine (HTl3.out _ HV4.out.st.le).mono ?_
      rintro e w3 ⟨⟨v3', rfl, hle⟩, ho⟩
      obtain ⟨A3, n3, c3', rfl⟩ := hle.isSl
      have HVa := Lib.hid (HV4.out.nil ho)
      have HLe := Lib.hid hle
      have HQ3 := Lib.hid (wrapU_range (b.seq + 1))
      have HB3 : Hid ((tell (b, l) (evTrade o m q)).1 = { b with seq := wrapU (b.seq + 1) }) := Lib.hid rfl
      have hl3 : (tell (b, l) (evTrade o m q)).2.length ≤ 100000000002 + 3 := by rw [(tell_fields b l (evTrade o m q)).2, List.length_append]; simp only [List.length_cons, List.length_nil]; omega
      clear ho hle HTl3 HV4 b0 b1 b2 b3 b4 b5 b6 bf bl o0 o1 o2 o3 o4 o5 o6 of ol m0 m1 m2 m3 m4 m5 m6 mf ml
      go_upto_region 17 with (refine wpList_store_row rfl tTd (.tmp 2) (.tmp 103) rfl _ rfl (tdRow (tell (b, l) (evTrade o m q)).1 (.slice A1 n1 c1) (.slice A2 n2 c2) (.slice A3 n3 c3')) _ rfl _ HVa.out.st.t infoTd rfl (one_td _ ⟨_, _, _, rfl⟩ ⟨_, _, _, rfl⟩ ⟨_, _, _, rfl⟩) ?_)
      simp only [Act.put, List.setIfInBounds_toArray, List.set_cons_zero, List.set_cons_succ]
      generalize hW : World.setRow w3 _ _ = W3
      have hW' : w3.setRow w.heap.size (tdRow (tell (b, l) (evTrade o m q)).1 (.slice A1 n1 c1) (.slice A2 n2 c2) (.slice A3 n3 c3')) = W3 := hW
      have HVb : Hid (StM w w.heap.size (w.heap.size + 1) (w.heap.size + 1 + 1) (w.heap.size + 1 + 1 + 1) M (tell (b, l) (evTrade o m q)).1 (tell (b, l) (evTrade o m q)).2 (.slice A1 n1 c1) (.slice A2 n2 c2) (.slice A3 n3 c3') o m W3) := Lib.hid (by
        rw [← hW']
        exact HVa.out.setT HVa.out.st.lb HVa.out.st.ls HLe.out HVa.out.o1 HVa.out.o2)
      clear hW hW' HVa HLe
      generalize (tell (b, l) (evTrade o m q)).1 = d1 at *
      generalize (tell (b, l) (evTrade o m q)).2 = l1 at *
      obtain ⟨b0, b1, b2, b3, b4, b5, b6, bf, bl⟩ := td_cells HVb.out.st.t
      obtain ⟨o0, o1, o2, o3, o4, o5, o6, of, ol⟩ := co_cells HVb.out.st.o
      obtain ⟨m0, m1, m2, m3, m4, m5, m6, mf, ml⟩ := rs_cellsR HVb.out.m
      go_upto_region 18 with fail
      generalize hW : World.setCell _ _ _ = W5
      have HV5 : Hid (StM w w.heap.size (w.heap.size + 1) (w.heap.size + 1 + 1) (w.heap.size + 1 + 1 + 1) M d1 l1 (.slice A1 n1 c1) (.slice A2 n2 c2) (.slice A3 n3 c3') { o with left := o.left - q } m W5) := Lib.hid (by
        rw [← hW]
        exact HVb.out.setO1 (o' := { o with left := o.left - q }) rfl)
      clear hW HVb b0 b1 b2 b3 b4 b5 b6 bf bl o0 o1 o2 o3 o4 o5 o6 of ol m0 m1 m2 m3 m4 m5 m6 mf ml
      obtain ⟨b0, b1, b2, b3, b4, b5, b6, bf, bl⟩ := td_cells HV5.out.st.t
      obtain ⟨o0, o1, o2, o3, o4, o5, o6, of, ol⟩ := co_cells HV5.out.st.o
      obtain ⟨m0, m1, m2, m3, m4, m5, m6, mf, ml⟩ := rs_cellsR HV5.out.m
      go_upto_region 19 with fail
      generalize hW : World.setCell _ _ _ = W6
      have HV6 : Hid (StM w w.heap.size (w.heap.size + 1) (w.heap.size + 1 + 1) (w.heap.size + 1 + 1 + 1) M d1 l1 (.slice A1 n1 c1) (.slice A2 n2 c2) (.slice A3 n3 c3') { o with left := o.left - q } { m with vis := m.vis - q } W6) := Lib.hid (by
        rw [← hW]
        exact HV5.out.setM (m' := { m with vis := m.vis - q }) rfl)
      clear hW HV5 b0 b1 b2 b3 b4 b5 b6 bf bl o0 o1 o2 o3 o4 o5 o6 of ol m0 m1 m2 m3 m4 m5 m6 mf ml
      obtain ⟨b0, b1, b2, b3, b4, b5, b6, bf, bl⟩ := td_cells HV6.out.st.t
      obtain ⟨o0, o1, o2, o3, o4, o5, o6, of, ol⟩ := co_cells HV6.out.st.o
      obtain ⟨m0, m1, m2, m3, m4, m5, m6, mf, ml⟩ := rs_cellsR HV6.out.m
      go_wp2_with fail
      refine (HWo.out _ HV6.out.st.only).mono ?_
      rintro e w7 ⟨⟨vl, rfl, hlr, hfr⟩, hog⟩
      obtain ⟨Al, cl, rfl, _⟩ := hlr.sl
      have HOl : Hid (Off (.slice Al (without (m :: r) m.id).length cl) (without (m :: r) m.id) M) := Lib.hid (off_own hfr (blk_lt HV6.out.m))
      have HLl := Lib.hid hlr
      have HV7 := Lib.hid (HV6.out.nil hog)
      clear hlr hfr hog HV6 HWo HA b0 b1 b2 b3 b4 b5 b6 bf bl o0 o1 o2 o3 o4 o5 o6 of ol m0 m1 m2 m3 m4 m5 m6 mf ml
      obtain ⟨b0, b1, b2, b3, b4, b5, b6, bf, bl⟩ := td_cells HV7.out.st.t
      obtain ⟨o0, o1, o2, o3, o4, o5, o6, of, ol⟩ := co_cells HV7.out.st.o
      obtain ⟨m0, m1, m2, m3, m4, m5, m6, mf, ml⟩ := rs_cellsR HV7.out.m
      have HWs := Lib.hid (fun (vl : Value) X (hx : Only Nil w7 X) (hvl : LR X vl ({ m with vis := m.vis - q } :: without (m :: r) m.id)) => with_set (s := 3 - o.side) (by have := HS.out; omega) (HV7.out.st.lb.nil hx) (HV7.out.st.ls.nil hx) hvl)
      have hln := HNw.out
      have HGv := Lib.hid (fun X (hx : Only Nil w7 X) => (HLl.out.nil hx).gives)
      obtain ⟨i0, hi0, hz0, hz1, hz2⟩ := info_parts infoRsB
      have HF1 := Lib.hid (rs_flat (without (m :: r) m.id))
      have HF2 := Lib.hid (one_flat (without (m :: r) m.id))
      go_upto_region 21 with fail
      go_cut [4] from 12 to 172 (fun v4 wc => v4 = .pointer (some ⟨w.heap.size + 1 + 1, 0, none⟩) ∧ Hid (∃ x y, IsSl x ∧ IsSl y ∧ StW w w.heap.size (w.heap.size + 1) (w.heap.size + 1 + 1) (w.heap.size + 1 + 1 + 1) (d1.set (3 - o.side) ({ m with vis := m.vis - q } :: without (m :: r) m.id)) l1 x y (.slice A3 n3 c3') { o with left := o.left - q } wc))
      case first =>
        go_region_law (first
          | ((refine step_append_any rfl (.tmp 125) (.tmp 126) tSl rfl 0 tR i0 _ 7 56 Try.underlying29 hi0 hz0 hz1 hz2 rfl (by omega) _ 1 ({ m with vis := m.vis - q } : Rs).cells rfl (own_one _ { m with vis := m.vis - q }) _ (without (m :: r) m.id).length _ rfl (HGv.out _ ((Only.refl Nil _).alloc _).drew) HF1.out HF2.out (by unfold maxLen; omega) (by omega) (Nat.zero_le _) ?_); intro A1' c1' w8 hown hgrow hat;
              (have HOg : Hid (Only Nil w7 w8) := Lib.hid (((Only.refl Nil w7).alloc _).drew.grown hgrow (fun k hk hlt => by (have hk' := ob_ge (B := w7.heap.size) (Nat.le_refl _) k hk); omega)));
              (have HLg : Hid (LR w8 (.slice A1' (1 + (without (m :: r) m.id).length) c1') ({ m with vis := m.vis - q } :: without (m :: r) m.id)) := Lib.hid (Lst.of_own (base := 0) (by
                have e1 : ({ m with vis := m.vis - q } :: without (m :: r) m.id).length = 1 + (without (m :: r) m.id).length := by simp; omega
                rw [e1]
                exact hown) (by omega)));
              (obtain ⟨g0, g1, g2, g3, g4, g5, g6, gf, gl⟩ := td_cells (HV7.out.nil HOg.out).st.t);
              clear hown hgrow hat)
          | (go_simp; go_at_call 27; (obtain ⟨x, y, ix, iy, hwc⟩ := HWs.out _ _ HOg.out HLg.out); (obtain ⟨Ax, nx, cx, rfl⟩ := ix); (obtain ⟨Ay, ny, cy, rfl⟩ := iy); (refine (hwc _ (Only.refl _ _)).mono ?_); rintro e wh ⟨rfl, hx, hy, hoh⟩;
              (have HVw := Lib.hid ((HV7.out.nil HOg.out).nil hoh).st);
              (have HX := Lib.hid hx);
              (have HY := Lib.hid hy);
              (obtain ⟨z0, z1, z2, z3, z4, z5, z6, zf, zl⟩ := td_cells HVw.out.t);
              clear hx hy hoh hwc; unfold bkRow))
        all_goals
          go_wp2
          go_meet
          case rel => exact ⟨rfl, Lib.hid ⟨_, _, ⟨_, _, _, rfl⟩, ⟨_, _, _, rfl⟩, HVw.out.setB HX.out HY.out⟩⟩
      case rest =>
        obtain ⟨rfl, HCt⟩ := hcut
        obtain ⟨x, y, ix, iy, hst⟩ := HCt.out
        obtain ⟨Ax, nx, cx, rfl⟩ := ix
        obtain ⟨Ay, ny, cy, rfl⟩ := iy
        have HV := Lib.hid hst
        clear HCt hst HV7 HWs HLl HOl b0 b1 b2 b3 b4 b5 b6 bf bl o0 o1 o2 o3 o4 o5 o6 of ol m0 m1 m2 m3 m4 m5 m6 mf ml
        generalize ({ o with left := o.left - q } : Co) = oz at *
        go_upto_region 22 with fail
        obtain ⟨b0, b1, b2, b3, b4, b5, b6, bf, bl⟩ := td_cells HV.out.t
        obtain ⟨o0, o1, o2, o3, o4, o5, o6, of, ol⟩ := co_cells HV.out.o
        obtain ⟨r0, r1, r2, r3, r4, r5, r6, rf, rl⟩ := td_cells HV.out.r1
        obtain ⟨q0, q1, q2, q3, q4, q5, q6, qf, ql⟩ := co_cells HV.out.r2
        have hR : w.heap.size ≤ w.heap.size + 1 + 1 ∧ w.heap.size ≤ w.heap.size + 1 + 1 + 1 := ⟨by omega, by omega⟩
        have HRt := Lib.hid (fun W1 W2 hW => st_ret (W1 := W1) (W2 := W2) HV.out hR hW)
        clear hR
        go_region_law (fail)
        all_goals
          go_wp2
          show bodyPost _ _ (StepPost (stepR (b, l) o).1 (stepR (b, l) o).2 w) _ _ _
          rw [HE.out]
          generalize hWf : World.setCell _ _ _ = Wf
          have hr := HRt.out _ Wf (by first | exact .inl ⟨rfl, hWf.symm⟩ | exact .inr ⟨rfl, hWf.symm⟩)
          clear hWf
          obtain ⟨hr1, hr2, hr3⟩ := hr
          refine bodyPost_ret (results_two rfl _ _ (w.heap.size + 1 + 1) (w.heap.size + 1 + 1 + 1) tTd tCo _ _ _ _ rfl rfl (blk_drew hr1) (blk_drew hr2) Try.underlying64 rfl infoTd Try.underlying68 rfl infoCo) rfl ?_
          exact ⟨_, _, _, rfl, st_drew hr3⟩
end Ck
end Go.Proofs.Ytcnkbhgdcfckoaa
