/- The walk of the document's step: a trade behind which an order shows anew. -/
import Derived.Test.YtcnkbhgdcfckoaaNc
set_option linter.unusedVariables false
set_option linter.unusedSimpArgs false
namespace Go.Proofs.Ytcnkbhgdcfckoaa
open Go.RowKit
namespace Ck
set_option maxHeartbeats 1600000 in
set_option maxRecDepth 100000 in
theorem step_fresh (b : Bk) (l : List Ev) (v1 v2 v3 : Value) (o : Co) (m : Rs) (r : List Rs) (w : World) (h1 : LR w v1 b.buys) (h2 : LR w v2 b.sells) (h3 : LE w v3 l) (hl : l.length ≤ 100000000000) (hq : 0 ≤ b.seq ∧ b.seq < 18446744073709551616) (hn : (m :: r).length ≤ 1000000) (hs : o.side = 1 ∨ o.side = 2) (hd : sideR b (3 - o.side) = m :: r) (hm : OkR m) (hlf : 1 ≤ o.left ∧ o.left ≤ 4294967295) (ho : ownR b o m = false) (hmore : ¬ (0 < m.vis - (if m.vis < o.left then m.vis else o.left))) (hhid : 0 < m.hid) :
    Calls Try.prog 64 #[.agg (tdRow b v1 v2 v3), .agg (coRow o)] w (StepPost (stepR (b, l) o).1 (stepR (b, l) o).2 w) := by
  have HEt := Lib.hid (step_trade_eq (l := l) hd ho)
  obtain ⟨q, hqq⟩ : ∃ q, q = if m.vis < o.left then m.vis else o.left := ⟨_, rfl⟩
  have HQq := Lib.hid hqq
  have hq1 : 1 ≤ q := by have := hm.vis; rw [hqq]; split <;> omega
  have hq2 : q ≤ m.vis := by rw [hqq]; split <;> omega
  have hq3 : q ≤ o.left := by rw [hqq]; split <;> omega
  have HQ2 := Lib.hid hq
  have HOw : Hid ((m.mem != 0) = false ∨ ((m.mem != 0) = true ∧ (m.mem == o.mem) = false) ∨ ((m.mem != 0) = true ∧ (m.mem == o.mem) = true ∧ (b.meet != 0) = false)) := Lib.hid (by
    unfold ownR at ho
    cases e1 : (m.mem != 0) <;> cases e2 : (m.mem == o.mem) <;> cases e3 : (b.meet != 0) <;> simp_all)
  replace hmore : ¬ (0 < m.vis - q) := by rw [hqq]; exact hmore
  obtain ⟨n, hnn⟩ : ∃ n, n = if m.hid < m.peak then m.hid else m.peak := ⟨_, rfl⟩
  have HNn := Lib.hid hnn
  have hn1 : 1 ≤ n := by have := hm.hpos hhid; rw [hnn]; split <;> omega
  have hn2 : n ≤ m.hid := by rw [hnn]; split <;> omega
  have HE := Lib.hid (HEt.out.trans (trade_eq_fresh hqq hnn hmore hhid))
  have hpk : 0 ≤ m.peak := hm.peak
  clear HEt hnn
  clear hqq ho hq
  obtain ⟨vf, hvf, hve, hc⟩ := side_far h1 h2 (s := 3 - o.side) (by omega)
  clear hve
  rw [hd] at hvf
  obtain ⟨Af, cf, rfl, _, _⟩ := hvf.sl
  have HWo := Lib.hid (fun W ho => without_any _ (m :: r) m.id W (hvf.nil (w1 := W) ho) hn)
  obtain ⟨g, off, rfl, _, _, ha⟩ := hvf.get (i := 0) (r := m) rfl
  have HA := Lib.hid (fun W (ho : Only Nil w W) => (hvf.nil ho).get (i := 0) (r := m) rfl)
  have HNw : Hid ((without (m :: r) m.id).length ≤ 1000000) := Lib.hid (Nat.le_trans (List.length_filter_le _ _) hn)
  have hs1 : 1 ≤ o.side := by omega
  have hs2 : o.side ≤ 2 := by omega
  have i1 := h1.isSl
  have i2 := h2.isSl
  have i3 := h3.isSl
  have hm1 := hm.vis
  have hm2 := hm.hid
  have hm3 := hm.sum
  have hl1 := hlf.1
  have hl2 := hlf.2
  have hni : (0 : Int) < ((m :: r).length : Int) := by simp
  have hnn : 0 < (m :: r).length := by simp
  have HC := Lib.hid hc
  have HV0 := Lib.hid (st_begin (o := o) h1 h2 h3)
  have HS := Lib.hid hs
  have HD := Lib.hid hd
  obtain ⟨A1, n1, c1, rfl⟩ := i1
  obtain ⟨A2, n2, c2, rfl⟩ := i2
  obtain ⟨A3, n3, c3, rfl⟩ := i3
  have HN := Lib.hid hn
  generalize (m :: r).length = N at *
  clear h1 h2 h3 hs hd hc hvf ha hn hm hlf
  go_enter Try.func64, Try.ntmps64
  go_upto_region 1 with fail
  generalize hW : World.alloc (World.alloc (World.alloc (World.alloc w _) _) _) _ = W0
  have hW' : ((((w.alloc (.cells (tdRow b (.slice A1 n1 c1) (.slice A2 n2 c2) (.slice A3 n3 c3)) tTd)).alloc (.cells (coRow o) tCo)).alloc (.cells td0 tTd)).alloc (.cells (coRow zCo) tCo)) = W0 := hW
  rw [hW'] at HV0
  clear hW hW'
  obtain ⟨b0, b1, b2, b3, b4, b5, b6, bf, bl⟩ := td_cells HV0.out.t
  obtain ⟨o0, o1, o2, o3, o4, o5, o6, of, ol⟩ := co_cells HV0.out.o
  go_wp2_with fail
  refine (HC.out _).mono ?_
  rintro e w1 ⟨rfl, ho⟩
  have HV1 := Lib.hid (HV0.out.nil ho)
  clear ho HV0 HC b0 b1 b2 b3 b4 b5 b6 bf bl o0 o1 o2 o3 o4 o5 o6 of ol
  obtain ⟨b0, b1, b2, b3, b4, b5, b6, bf, bl⟩ := td_cells HV1.out.t
  obtain ⟨o0, o1, o2, o3, o4, o5, o6, of, ol⟩ := co_cells HV1.out.o
  obtain ⟨g', off', e2, _, _, ha⟩ := HA.out w1 HV1.out.only
  injection e2 with e2
  injection e2 with e2 e3 _
  subst e2; subst e3
  have a0 := ha.c0
  have a1 := ha.c1
  have a2 := ha.c2
  have a3 := ha.c3
  have a4 := ha.c4
  have a5 := ha.c5
  have a6 := ha.c6
  have lg := ha.lt
  simp only [Nat.zero_mul, Nat.add_zero] at a0 a1 a2 a3 a4 a5 a6
  go_upto_region 4 with (refine wpList_alloc_store rfl tR rfl 8 rfl zR.row laysR rfl (.tmp 21) rfl rfl m.row rfl rfl infoRs rfl (one_row _) ?_)
  simp only [Act.put, List.setIfInBounds_toArray, List.set_cons_zero, List.set_cons_succ]
  generalize hW : World.alloc w1 _ = W2
  have hW' : w1.alloc (.cells m.row tR) = W2 := hW
  have HV2 : Hid (StM w w.heap.size (w.heap.size + 1) (w.heap.size + 1 + 1) (w.heap.size + 1 + 1 + 1) w1.heap.size b l (.slice A1 n1 c1) (.slice A2 n2 c2) (.slice A3 n3 c3) o m W2) := Lib.hid (by
    rw [← hW']
    exact ⟨HV1.out.alloc _, blk_new _ _, HV1.out.only.size, HV1.out.lb.off_new (Nat.le_refl _), HV1.out.ls.off_new (Nat.le_refl _)⟩)
  clear hW hW' HV1 a0 a1 a2 a3 a4 a5 a6 lg ha b0 b1 b2 b3 b4 b5 b6 bf bl o0 o1 o2 o3 o4 o5 o6 of ol
  generalize w1.heap.size = M at *
  obtain ⟨b0, b1, b2, b3, b4, b5, b6, bf, bl⟩ := td_cells HV2.out.st.t
  obtain ⟨o0, o1, o2, o3, o4, o5, o6, of, ol⟩ := co_cells HV2.out.st.o
  obtain ⟨m0, m1, m2, m3, m4, m5, m6, mf, ml⟩ := rs_cellsR HV2.out.m
  go_cut [38] from 12 to 172 (fun v38 wc => v38 = .bool false ∧ Hid (StM w w.heap.size (w.heap.size + 1) (w.heap.size + 1 + 1) (w.heap.size + 1 + 1 + 1) M b l (.slice A1 n1 c1) (.slice A2 n2 c2) (.slice A3 n3 c3) o m wc))
  case first =>
    have how := HOw.out
    clear HOw
    rcases how with k1 | ⟨k1, k2⟩ | ⟨k1, k2, k3⟩
    all_goals
      go_wp2
      go_meet
      case rel => exact ⟨rfl, HV2⟩
  case rest =>
    obtain ⟨rfl, HV3⟩ := hcut
    clear HV2 HOw b0 b1 b2 b3 b4 b5 b6 bf bl o0 o1 o2 o3 o4 o5 o6 of ol m0 m1 m2 m3 m4 m5 m6 mf ml
    obtain ⟨b0, b1, b2, b3, b4, b5, b6, bf, bl⟩ := td_cells HV3.out.st.t
    obtain ⟨o0, o1, o2, o3, o4, o5, o6, of, ol⟩ := co_cells HV3.out.st.o
    obtain ⟨m0, m1, m2, m3, m4, m5, m6, mf, ml⟩ := rs_cellsR HV3.out.m
    go_upto_if 89 with fail
    go_cut [10] from 12 to 172 (fun v10 wc => v10 = .int .u64 q ∧ Hid (StM w w.heap.size (w.heap.size + 1) (w.heap.size + 1 + 1) (w.heap.size + 1 + 1 + 1) M b l (.slice A1 n1 c1) (.slice A2 n2 c2) (.slice A3 n3 c3) o m wc))
    case first =>
      by_cases hlt : m.vis < o.left
      · have HX : Hid (q = m.vis) := Lib.hid (by rw [HQq.out, if_pos hlt])
        go_wp2
        go_meet
        case rel => exact ⟨by rw [HX.out], HV3⟩
      · have HX : Hid (q = o.left) := Lib.hid (by rw [HQq.out, if_neg hlt])
        go_wp2
        go_meet
        case rel => exact ⟨by rw [HX.out], HV3⟩
    case rest =>
      obtain ⟨rfl, HV4⟩ := hcut
      clear HV3 b0 b1 b2 b3 b4 b5 b6 bf bl o0 o1 o2 o3 o4 o5 o6 of ol m0 m1 m2 m3 m4 m5 m6 mf ml
      obtain ⟨b0, b1, b2, b3, b4, b5, b6, bf, bl⟩ := td_cells HV4.out.st.t
      obtain ⟨o0, o1, o2, o3, o4, o5, o6, of, ol⟩ := co_cells HV4.out.st.o
      obtain ⟨m0, m1, m2, m3, m4, m5, m6, mf, ml⟩ := rs_cellsR HV4.out.m
      have HTl3 := Lib.hid (fun W hW => tell_any b l (evTrade o m q) (.slice A1 n1 c1) (.slice A2 n2 c2) (.slice A3 n3 c3) W ⟨_, _, _, rfl⟩ ⟨_, _, _, rfl⟩ hW (by omega) HQ2.out)
      go_wp2_with fail
      refine (HTl3.out _ HV4.out.st.le).mono ?_
      rintro e w3 ⟨⟨v3', rfl, hle⟩, ho⟩
      obtain ⟨A3, n3, c3', rfl⟩ := hle.isSl
      have HVa := Lib.hid (HV4.out.nil ho)
      have HLe := Lib.hid hle
      have HQ3 := Lib.hid (wrapU_range (b.seq + 1))
      have HB3 : Hid ((tell (b, l) (evTrade o m q)).1 = { b with seq := wrapU (b.seq + 1) }) := Lib.hid rfl
      have hl3 : (tell (b, l) (evTrade o m q)).2.length ≤ 100000000002 + 3 := by rw [(tell_fields b l (evTrade o m q)).2, List.length_append]; simp only [List.length_cons, List.length_nil]; omega
      clear ho hle HTl3 HV4 b0 b1 b2 b3 b4 b5 b6 bf bl o0 o1 o2 o3 o4 o5 o6 of ol m0 m1 m2 m3 m4 m5 m6 mf ml
      go_upto_region 17 with (refine wpList_store_row rfl tTd (.tmp 2) (.tmp 103) rfl _ rfl (tdRow (tell (b, l) (evTrade o m q)).1 (.slice A1 n1 c1) (.slice A2 n2 c2) (.slice A3 n3 c3')) _ rfl _ HVa.out.st.t infoTd rfl (one_td _ ⟨_, _, _, rfl⟩ ⟨_, _, _, rfl⟩ ⟨_, _, _, rfl⟩) ?_)
      simp only [Act.put, List.setIfInBounds_toArray, List.set_cons_zero, List.set_cons_succ]
      generalize hW : World.setRow w3 _ _ = W3
      have hW' : w3.setRow w.heap.size (tdRow (tell (b, l) (evTrade o m q)).1 (.slice A1 n1 c1) (.slice A2 n2 c2) (.slice A3 n3 c3')) = W3 := hW
      have HVb : Hid (StM w w.heap.size (w.heap.size + 1) (w.heap.size + 1 + 1) (w.heap.size + 1 + 1 + 1) M (tell (b, l) (evTrade o m q)).1 (tell (b, l) (evTrade o m q)).2 (.slice A1 n1 c1) (.slice A2 n2 c2) (.slice A3 n3 c3') o m W3) := Lib.hid (by
        rw [← hW']
        exact HVa.out.setT HVa.out.st.lb HVa.out.st.ls HLe.out HVa.out.o1 HVa.out.o2)
      clear hW hW' HVa HLe
      generalize (tell (b, l) (evTrade o m q)).1 = d1 at *
      generalize (tell (b, l) (evTrade o m q)).2 = l1 at *
      obtain ⟨b0, b1, b2, b3, b4, b5, b6, bf, bl⟩ := td_cells HVb.out.st.t
      obtain ⟨o0, o1, o2, o3, o4, o5, o6, of, ol⟩ := co_cells HVb.out.st.o
      obtain ⟨m0, m1, m2, m3, m4, m5, m6, mf, ml⟩ := rs_cellsR HVb.out.m
      go_upto_region 18 with fail
      generalize hW : World.setCell _ _ _ = W5
      have HV5 : Hid (StM w w.heap.size (w.heap.size + 1) (w.heap.size + 1 + 1) (w.heap.size + 1 + 1 + 1) M d1 l1 (.slice A1 n1 c1) (.slice A2 n2 c2) (.slice A3 n3 c3') { o with left := o.left - q } m W5) := Lib.hid (by
        rw [← hW]
        exact HVb.out.setO1 (o' := { o with left := o.left - q }) rfl)
      clear hW HVb b0 b1 b2 b3 b4 b5 b6 bf bl o0 o1 o2 o3 o4 o5 o6 of ol m0 m1 m2 m3 m4 m5 m6 mf ml
      obtain ⟨b0, b1, b2, b3, b4, b5, b6, bf, bl⟩ := td_cells HV5.out.st.t
      obtain ⟨o0, o1, o2, o3, o4, o5, o6, of, ol⟩ := co_cells HV5.out.st.o
      obtain ⟨m0, m1, m2, m3, m4, m5, m6, mf, ml⟩ := rs_cellsR HV5.out.m
      go_upto_region 19 with fail
      generalize hW : World.setCell _ _ _ = W6
      have HV6 : Hid (StM w w.heap.size (w.heap.size + 1) (w.heap.size + 1 + 1) (w.heap.size + 1 + 1 + 1) M d1 l1 (.slice A1 n1 c1) (.slice A2 n2 c2) (.slice A3 n3 c3') { o with left := o.left - q } { m with vis := m.vis - q } W6) := Lib.hid (by
        rw [← hW]
        exact HV5.out.setM (m' := { m with vis := m.vis - q }) rfl)
      clear hW HV5 b0 b1 b2 b3 b4 b5 b6 bf bl o0 o1 o2 o3 o4 o5 o6 of ol m0 m1 m2 m3 m4 m5 m6 mf ml
      obtain ⟨b0, b1, b2, b3, b4, b5, b6, bf, bl⟩ := td_cells HV6.out.st.t
      obtain ⟨o0, o1, o2, o3, o4, o5, o6, of, ol⟩ := co_cells HV6.out.st.o
      obtain ⟨m0, m1, m2, m3, m4, m5, m6, mf, ml⟩ := rs_cellsR HV6.out.m
      go_wp2_with fail
      refine (HWo.out _ HV6.out.st.only).mono ?_
      rintro e w7 ⟨⟨vl, rfl, hlr, hfr⟩, hog⟩
      obtain ⟨Al, cl, rfl, _⟩ := hlr.sl
      have HOl : Hid (Off (.slice Al (without (m :: r) m.id).length cl) (without (m :: r) m.id) M) := Lib.hid (off_own hfr (blk_lt HV6.out.m))
      have HLl := Lib.hid hlr
      have HV7 := Lib.hid (HV6.out.nil hog)
      clear hlr hfr hog HV6 HWo HA b0 b1 b2 b3 b4 b5 b6 bf bl o0 o1 o2 o3 o4 o5 o6 of ol m0 m1 m2 m3 m4 m5 m6 mf ml
      obtain ⟨b0, b1, b2, b3, b4, b5, b6, bf, bl⟩ := td_cells HV7.out.st.t
      obtain ⟨o0, o1, o2, o3, o4, o5, o6, of, ol⟩ := co_cells HV7.out.st.o
      obtain ⟨m0, m1, m2, m3, m4, m5, m6, mf, ml⟩ := rs_cellsR HV7.out.m
      go_upto_region 25 with fail
      generalize hW : World.setCell _ _ _ = W8
      have HV8 : Hid (StM w w.heap.size (w.heap.size + 1) (w.heap.size + 1 + 1) (w.heap.size + 1 + 1 + 1) M d1 l1 (.slice A1 n1 c1) (.slice A2 n2 c2) (.slice A3 n3 c3') { o with left := o.left - q } { m with vis := m.peak } W8) := Lib.hid (by
        rw [← hW]
        exact HV7.out.setM (m' := { m with vis := m.peak }) rfl)
      have HL8 : Hid (LR W8 (.slice Al (without (m :: r) m.id).length cl) (without (m :: r) m.id)) := Lib.hid (by
        rw [← hW]
        exact HLl.out.off HOl.out ((Only.refl (fun k => k = M) w7).setCell (p := ⟨M, 4, none⟩) (.inl rfl) _))
      clear hW HV7 HLl b0 b1 b2 b3 b4 b5 b6 bf bl o0 o1 o2 o3 o4 o5 o6 of ol m0 m1 m2 m3 m4 m5 m6 mf ml
      obtain ⟨b0, b1, b2, b3, b4, b5, b6, bf, bl⟩ := td_cells HV8.out.st.t
      obtain ⟨o0, o1, o2, o3, o4, o5, o6, of, ol⟩ := co_cells HV8.out.st.o
      obtain ⟨m0, m1, m2, m3, m4, m5, m6, mf, ml⟩ := rs_cellsR HV8.out.m
      go_upto_if 142 with fail
      go_cut [8] from 12 to 172 (fun v8 wc => v8 = .pointer (some ⟨M, 0, none⟩) ∧ Hid (StM w w.heap.size (w.heap.size + 1) (w.heap.size + 1 + 1) (w.heap.size + 1 + 1 + 1) M d1 l1 (.slice A1 n1 c1) (.slice A2 n2 c2) (.slice A3 n3 c3') { o with left := o.left - q } { m with vis := n } wc ∧ LR wc (.slice Al (without (m :: r) m.id).length cl) (without (m :: r) m.id)))
      case first =>
        by_cases hlt : m.hid < m.peak
        · have HX : Hid (n = m.hid) := Lib.hid (by rw [HNn.out, if_pos hlt])
          go_wp2
          go_meet
          case rel =>
            refine ⟨rfl, Lib.hid ?_⟩
            rw [HX.out]
            exact ⟨HV8.out.setM (m' := { m with vis := m.hid }) rfl, HL8.out.off HOl.out ((Only.refl (fun k => k = M) W8).setCell (p := ⟨M, 4, none⟩) (.inl rfl) _)⟩
        · have HX : Hid (n = m.peak) := Lib.hid (by rw [HNn.out, if_neg hlt])
          go_wp2
          go_meet
          case rel =>
            refine ⟨rfl, Lib.hid ?_⟩
            rw [HX.out]
            exact ⟨HV8.out, HL8.out⟩
      case rest =>
        obtain ⟨rfl, HCt⟩ := hcut
        have HV9 := Lib.hid HCt.out.1
        have HL9 := Lib.hid HCt.out.2
        clear HCt HV8 HL8 b0 b1 b2 b3 b4 b5 b6 bf bl o0 o1 o2 o3 o4 o5 o6 of ol m0 m1 m2 m3 m4 m5 m6 mf ml
        obtain ⟨b0, b1, b2, b3, b4, b5, b6, bf, bl⟩ := td_cells HV9.out.st.t
        obtain ⟨o0, o1, o2, o3, o4, o5, o6, of, ol⟩ := co_cells HV9.out.st.o
        obtain ⟨m0, m1, m2, m3, m4, m5, m6, mf, ml⟩ := rs_cellsR HV9.out.m
        go_upto_region 28 with fail
        generalize hW : World.setCell _ _ _ = Wa
        have HVx : Hid (StM w w.heap.size (w.heap.size + 1) (w.heap.size + 1 + 1) (w.heap.size + 1 + 1 + 1) M d1 l1 (.slice A1 n1 c1) (.slice A2 n2 c2) (.slice A3 n3 c3') { o with left := o.left - q } { m with vis := n, hid := m.hid - n } Wa) := Lib.hid (by
          rw [← hW]
          exact HV9.out.setM (m' := { m with vis := n, hid := m.hid - n }) rfl)
        have HLl : Hid (LR Wa (.slice Al (without (m :: r) m.id).length cl) (without (m :: r) m.id)) := Lib.hid (by
          rw [← hW]
          exact HL9.out.off HOl.out ((Only.refl (fun k => k = M) wc).setCell (p := ⟨M, 5, none⟩) (.inl rfl) _))
        have HQd : Hid (0 ≤ d1.seq ∧ d1.seq < 18446744073709551616) := Lib.hid (by rw [HB3.out]; exact wrapU_range _)
        clear hW HV9 HL9 b0 b1 b2 b3 b4 b5 b6 bf bl o0 o1 o2 o3 o4 o5 o6 of ol m0 m1 m2 m3 m4 m5 m6 mf ml
        obtain ⟨b0, b1, b2, b3, b4, b5, b6, bf, bl⟩ := td_cells HVx.out.st.t
        obtain ⟨o0, o1, o2, o3, o4, o5, o6, of, ol⟩ := co_cells HVx.out.st.o
        obtain ⟨m0, m1, m2, m3, m4, m5, m6, mf, ml⟩ := rs_cellsR HVx.out.m
        have HTl8 := Lib.hid (fun W hW => tell_any d1 l1 (evFresh m n) (.slice A1 n1 c1) (.slice A2 n2 c2) (.slice A3 n3 c3') W ⟨_, _, _, rfl⟩ ⟨_, _, _, rfl⟩ hW (by omega) HQd.out)
        go_wp2_with fail
        refine (HTl8.out _ HVx.out.st.le).mono ?_
        rintro e w8 ⟨⟨v3', rfl, hle⟩, ho⟩
        obtain ⟨A3, n3, c3', rfl⟩ := hle.isSl
        have HVa := Lib.hid (HVx.out.nil ho)
        have HLe := Lib.hid hle
        have HLc := Lib.hid (HLl.out.nil ho)
        have HQ8 := Lib.hid (wrapU_range (d1.seq + 1))
        have HB8 : Hid ((tell (d1, l1) (evFresh m n)).1 = { d1 with seq := wrapU (d1.seq + 1) }) := Lib.hid rfl
        have hl8 : (tell (d1, l1) (evFresh m n)).2.length ≤ 100000000002 + 8 := by rw [(tell_fields d1 l1 (evFresh m n)).2, List.length_append]; simp only [List.length_cons, List.length_nil]; omega
        clear ho hle HTl8 HVx b0 b1 b2 b3 b4 b5 b6 bf bl o0 o1 o2 o3 o4 o5 o6 of ol m0 m1 m2 m3 m4 m5 m6 mf ml
        go_upto_region 29 with (refine wpList_store_row rfl tTd (.tmp 2) (.tmp 160) rfl _ rfl (tdRow (tell (d1, l1) (evFresh m n)).1 (.slice A1 n1 c1) (.slice A2 n2 c2) (.slice A3 n3 c3')) _ rfl _ HVa.out.st.t infoTd rfl (one_td _ ⟨_, _, _, rfl⟩ ⟨_, _, _, rfl⟩ ⟨_, _, _, rfl⟩) ?_)
        simp only [Act.put, List.setIfInBounds_toArray, List.set_cons_zero, List.set_cons_succ]
        generalize hW : World.setRow w8 _ _ = W8
        have hW' : w8.setRow w.heap.size (tdRow (tell (d1, l1) (evFresh m n)).1 (.slice A1 n1 c1) (.slice A2 n2 c2) (.slice A3 n3 c3')) = W8 := hW
        have HVb : Hid (StM w w.heap.size (w.heap.size + 1) (w.heap.size + 1 + 1) (w.heap.size + 1 + 1 + 1) M (tell (d1, l1) (evFresh m n)).1 (tell (d1, l1) (evFresh m n)).2 (.slice A1 n1 c1) (.slice A2 n2 c2) (.slice A3 n3 c3') { o with left := o.left - q } { m with vis := n, hid := m.hid - n } W8) := Lib.hid (by
          rw [← hW']
          exact HVa.out.setT HVa.out.st.lb HVa.out.st.ls HLe.out HVa.out.o1 HVa.out.o2)
        have HLd : Hid (LR W8 (.slice Al (without (m :: r) m.id).length cl) (without (m :: r) m.id)) := Lib.hid (by
          rw [← hW']
          exact HLc.out.only (only_row _ _) (fun k hk => ⟨tTd, hk ▸ blk_ty HVa.out.st.t, by decide⟩))
        clear HLl HLc
        clear hW hW' HVa HLe
        generalize (tell (d1, l1) (evFresh m n)).1 = d2 at *
        generalize (tell (d1, l1) (evFresh m n)).2 = l2 at *
        obtain ⟨b0, b1, b2, b3, b4, b5, b6, bf, bl⟩ := td_cells HVb.out.st.t
        obtain ⟨o0, o1, o2, o3, o4, o5, o6, of, ol⟩ := co_cells HVb.out.st.o
        obtain ⟨m0, m1, m2, m3, m4, m5, m6, mf, ml⟩ := rs_cellsR HVb.out.m
        have HEn := Lib.hid (enqueued_any _ (without (m :: r) m.id) (3 - o.side) { m with vis := n, hid := m.hid - n } W8 HLd.out HNw.out)
        go_wp2_with fail
        refine HEn.out.mono ?_
        rintro e w7 ⟨⟨vl, rfl, hlr, hfr⟩, hog⟩
        obtain ⟨Al, cl, rfl, _⟩ := hlr.sl
        have HLl := Lib.hid hlr
        have HV7 := Lib.hid (HVb.out.nil hog)
        clear hlr hfr hog HVb HEn HLd b0 b1 b2 b3 b4 b5 b6 bf bl o0 o1 o2 o3 o4 o5 o6 of ol m0 m1 m2 m3 m4 m5 m6 mf ml
        obtain ⟨b0, b1, b2, b3, b4, b5, b6, bf, bl⟩ := td_cells HV7.out.st.t
        obtain ⟨o0, o1, o2, o3, o4, o5, o6, of, ol⟩ := co_cells HV7.out.st.o
        obtain ⟨m0, m1, m2, m3, m4, m5, m6, mf, ml⟩ := rs_cellsR HV7.out.m
        have HWs := Lib.hid (with_set (s := 3 - o.side) (by have := HS.out; omega) HV7.out.st.lb HV7.out.st.ls HLl.out)
        go_wp2_with fail
        obtain ⟨x, y, ix, iy, hwc⟩ := HWs.out
        obtain ⟨Ax, nx, cx, rfl⟩ := ix
        obtain ⟨Ay, ny, cy, rfl⟩ := iy
        refine (hwc _ (Only.refl _ _)).mono ?_
        rintro e w8 ⟨rfl, hx, hy, hoh⟩
        have HV8 := Lib.hid (HV7.out.nil hoh).st
        have HX := Lib.hid hx
        have HY := Lib.hid hy
        clear hx hy hoh hwc HV7 HWs b0 b1 b2 b3 b4 b5 b6 bf bl o0 o1 o2 o3 o4 o5 o6 of ol m0 m1 m2 m3 m4 m5 m6 mf ml
        obtain ⟨z0, z1, z2, z3, z4, z5, z6, zf, zl⟩ := td_cells HV8.out.t
        unfold bkRow
        go_upto_region 31 with fail
        generalize hW : World.setCell _ _ _ = W9
        have HV : Hid (StW w w.heap.size (w.heap.size + 1) (w.heap.size + 1 + 1) (w.heap.size + 1 + 1 + 1) (d2.set (3 - o.side) (enq (3 - o.side) { m with vis := n, hid := m.hid - n } (without (m :: r) m.id))) l2 (.slice Ax nx cx) (.slice Ay ny cy) (.slice A3 n3 c3') { o with left := o.left - q } W9) := Lib.hid (by
          rw [← hW]
          exact HV8.out.setB HX.out HY.out)
        clear hW HV8 HX HY z0 z1 z2 z3 z4 z5 z6 zf zl
        generalize ({ o with left := o.left - q } : Co) = oz at *
        obtain ⟨b0, b1, b2, b3, b4, b5, b6, bf, bl⟩ := td_cells HV.out.t
        obtain ⟨o0, o1, o2, o3, o4, o5, o6, of, ol⟩ := co_cells HV.out.o
        obtain ⟨r0, r1, r2, r3, r4, r5, r6, rf, rl⟩ := td_cells HV.out.r1
        obtain ⟨q0, q1, q2, q3, q4, q5, q6, qf, ql⟩ := co_cells HV.out.r2
        have hR : w.heap.size ≤ w.heap.size + 1 + 1 ∧ w.heap.size ≤ w.heap.size + 1 + 1 + 1 := ⟨by omega, by omega⟩
        have HRt := Lib.hid (fun W1 W2 hW => st_ret (W1 := W1) (W2 := W2) HV.out hR hW)
        clear hR
        go_region_law (fail)
        all_goals
          go_wp2
          show bodyPost _ _ (StepPost (stepR (b, l) o).1 (stepR (b, l) o).2 w) _ _ _
          rw [HE.out]
          generalize hWf : World.setCell _ _ _ = Wf
          have hr := HRt.out _ Wf (by first | exact .inl ⟨rfl, hWf.symm⟩ | exact .inr ⟨rfl, hWf.symm⟩)
          clear hWf
          obtain ⟨hr1, hr2, hr3⟩ := hr
          refine bodyPost_ret (results_two rfl _ _ (w.heap.size + 1 + 1) (w.heap.size + 1 + 1 + 1) tTd tCo _ _ _ _ rfl rfl (blk_drew hr1) (blk_drew hr2) Try.underlying64 rfl infoTd Try.underlying68 rfl infoCo) rfl ?_
          exact ⟨_, _, _, rfl, st_drew hr3⟩
end Ck
end Go.Proofs.Ytcnkbhgdcfckoaa
