/- The walk of the document's step: what comes meets one of its own member, and that is cancelled. -/
import Derived.Test.YtcnkbhgdcfckoaaNc
set_option linter.unusedVariables false
set_option linter.unusedSimpArgs false
namespace Go.Proofs.Ytcnkbhgdcfckoaa
open Go.RowKit
namespace Ck
set_option maxHeartbeats 1600000 in
set_option maxRecDepth 100000 in
theorem step_own2 (b : Bk) (l : List Ev) (v1 v2 v3 : Value) (o : Co) (m : Rs) (r : List Rs) (w : World) (h1 : LR w v1 b.buys) (h2 : LR w v2 b.sells) (h3 : LE w v3 l) (hl : l.length ≤ 100000000000) (hq : 0 ≤ b.seq ∧ b.seq < 18446744073709551616) (hn : (m :: r).length ≤ 1000000) (hs : o.side = 1 ∨ o.side = 2) (hd : sideR b (3 - o.side) = m :: r) (hm : OkR m) (hlf : 1 ≤ o.left ∧ o.left ≤ 4294967295) (ho : ownR b o m = true) (hmeet : b.meet = 2) :
    Calls Try.prog 64 #[.agg (tdRow b v1 v2 v3), .agg (coRow o)] w (StepPost (stepR (b, l) o).1 (stepR (b, l) o).2 w) := by
  have HE := Lib.hid ((step_own_eq (l := l) hd ho).trans (own_eq2 hmeet))
  have hw1 : (m.mem != 0) = true ∧ (m.mem == o.mem) = true ∧ (b.meet != 0) = true := by
    unfold ownR at ho
    simp only [Bool.and_eq_true] at ho
    exact ⟨ho.1.1, ho.1.2, ho.2⟩
  obtain ⟨hw1, hw2, hw3⟩ := hw1
  have HMe := Lib.hid hmeet
  have hk1 : (b.meet == 2) = true := by simp [hmeet]
  have hk2 : (b.meet == 1) = false := by simp [hmeet]
  have hk3 : (b.meet == 3) = false := by simp [hmeet]
  clear hmeet ho
  have HQ2 := Lib.hid hq
  clear hq
  obtain ⟨vf, hvf, hve, hc⟩ := side_far h1 h2 (s := 3 - o.side) (by omega)
  clear hve
  rw [hd] at hvf
  obtain ⟨Af, cf, rfl, _, _⟩ := hvf.sl
  have HWo := Lib.hid (fun W ho => without_any _ (m :: r) m.id W (hvf.nil (w1 := W) ho) hn)
  obtain ⟨g, off, rfl, _, _, ha⟩ := hvf.get (i := 0) (r := m) rfl
  have HA := Lib.hid (fun W (ho : Only Nil w W) => (hvf.nil ho).get (i := 0) (r := m) rfl)
  have HNw : Hid ((without (m :: r) m.id).length ≤ 1000000) := Lib.hid (Nat.le_trans (List.length_filter_le _ _) hn)
  have hs1 : 1 ≤ o.side := by omega
  have hs2 : o.side ≤ 2 := by omega
  have i1 := h1.isSl
  have i2 := h2.isSl
  have i3 := h3.isSl
  have hm1 := hm.vis
  have hm2 := hm.hid
  have hm3 := hm.sum
  have hl1 := hlf.1
  have hl2 := hlf.2
  have hni : (0 : Int) < ((m :: r).length : Int) := by simp
  have hnn : 0 < (m :: r).length := by simp
  have HC := Lib.hid hc
  have HV0 := Lib.hid (st_begin (o := o) h1 h2 h3)
  have HS := Lib.hid hs
  have HD := Lib.hid hd
  obtain ⟨A1, n1, c1, rfl⟩ := i1
  obtain ⟨A2, n2, c2, rfl⟩ := i2
  obtain ⟨A3, n3, c3, rfl⟩ := i3
  have HN := Lib.hid hn
  generalize (m :: r).length = N at *
  clear h1 h2 h3 hs hd hc hvf ha hn hm hlf
  go_enter Try.func64, Try.ntmps64
  go_upto_region 1 with fail
  generalize hW : World.alloc (World.alloc (World.alloc (World.alloc w _) _) _) _ = W0
  have hW' : ((((w.alloc (.cells (tdRow b (.slice A1 n1 c1) (.slice A2 n2 c2) (.slice A3 n3 c3)) tTd)).alloc (.cells (coRow o) tCo)).alloc (.cells td0 tTd)).alloc (.cells (coRow zCo) tCo)) = W0 := hW
  rw [hW'] at HV0
  clear hW hW'
  obtain ⟨b0, b1, b2, b3, b4, b5, b6, bf, bl⟩ := td_cells HV0.out.t
  obtain ⟨o0, o1, o2, o3, o4, o5, o6, of, ol⟩ := co_cells HV0.out.o
  go_wp2_with fail
  refine (HC.out _).mono ?_
  rintro e w1 ⟨rfl, ho⟩
  have HV1 := Lib.hid (HV0.out.nil ho)
  clear ho HV0 HC b0 b1 b2 b3 b4 b5 b6 bf bl o0 o1 o2 o3 o4 o5 o6 of ol
  obtain ⟨b0, b1, b2, b3, b4, b5, b6, bf, bl⟩ := td_cells HV1.out.t
  obtain ⟨o0, o1, o2, o3, o4, o5, o6, of, ol⟩ := co_cells HV1.out.o
  obtain ⟨g', off', e2, _, _, ha⟩ := HA.out w1 HV1.out.only
  injection e2 with e2
  injection e2 with e2 e3 _
  subst e2; subst e3
  have a0 := ha.c0
  have a1 := ha.c1
  have a2 := ha.c2
  have a3 := ha.c3
  have a4 := ha.c4
  have a5 := ha.c5
  have a6 := ha.c6
  have lg := ha.lt
  simp only [Nat.zero_mul, Nat.add_zero] at a0 a1 a2 a3 a4 a5 a6
  go_upto_region 4 with (refine wpList_alloc_store rfl tR rfl 8 rfl zR.row laysR rfl (.tmp 21) rfl rfl m.row rfl rfl infoRs rfl (one_row _) ?_)
  simp only [Act.put, List.setIfInBounds_toArray, List.set_cons_zero, List.set_cons_succ]
  generalize hW : World.alloc w1 _ = W2
  have hW' : w1.alloc (.cells m.row tR) = W2 := hW
  have HV2 : Hid (StM w w.heap.size (w.heap.size + 1) (w.heap.size + 1 + 1) (w.heap.size + 1 + 1 + 1) w1.heap.size b l (.slice A1 n1 c1) (.slice A2 n2 c2) (.slice A3 n3 c3) o m W2) := Lib.hid (by
    rw [← hW']
    exact ⟨HV1.out.alloc _, blk_new _ _, HV1.out.only.size, HV1.out.lb.off_new (Nat.le_refl _), HV1.out.ls.off_new (Nat.le_refl _)⟩)
  clear hW hW' HV1 a0 a1 a2 a3 a4 a5 a6 lg ha b0 b1 b2 b3 b4 b5 b6 bf bl o0 o1 o2 o3 o4 o5 o6 of ol
  generalize w1.heap.size = M at *
  obtain ⟨b0, b1, b2, b3, b4, b5, b6, bf, bl⟩ := td_cells HV2.out.st.t
  obtain ⟨o0, o1, o2, o3, o4, o5, o6, of, ol⟩ := co_cells HV2.out.st.o
  obtain ⟨m0, m1, m2, m3, m4, m5, m6, mf, ml⟩ := rs_cellsR HV2.out.m
  have HTl3 := Lib.hid (fun W hW => tell_any b l (evCancel m.id (m.vis + m.hid) 5) (.slice A1 n1 c1) (.slice A2 n2 c2) (.slice A3 n3 c3) W ⟨_, _, _, rfl⟩ ⟨_, _, _, rfl⟩ hW (by omega) HQ2.out)
  go_wp2_with fail
  refine (HTl3.out _ HV2.out.st.le).mono ?_
  rintro e w3 ⟨⟨v3', rfl, hle⟩, ho⟩
  obtain ⟨A3, n3, c3', rfl⟩ := hle.isSl
  have HVa := Lib.hid (HV2.out.nil ho)
  have HLe := Lib.hid hle
  have HQ3 := Lib.hid (wrapU_range (b.seq + 1))
  have HB3 : Hid ((tell (b, l) (evCancel m.id (m.vis + m.hid) 5)).1 = { b with seq := wrapU (b.seq + 1) }) := Lib.hid rfl
  have hl3 : (tell (b, l) (evCancel m.id (m.vis + m.hid) 5)).2.length ≤ 100000000002 + 3 := by rw [(tell_fields b l (evCancel m.id (m.vis + m.hid) 5)).2, List.length_append]; simp only [List.length_cons, List.length_nil]; omega
  clear ho hle HTl3 HV2 b0 b1 b2 b3 b4 b5 b6 bf bl o0 o1 o2 o3 o4 o5 o6 of ol m0 m1 m2 m3 m4 m5 m6 mf ml
  go_upto_region 8 with (refine wpList_store_row rfl tTd (.tmp 2) (.tmp 58) rfl _ rfl (tdRow (tell (b, l) (evCancel m.id (m.vis + m.hid) 5)).1 (.slice A1 n1 c1) (.slice A2 n2 c2) (.slice A3 n3 c3')) _ rfl _ HVa.out.st.t infoTd rfl (one_td _ ⟨_, _, _, rfl⟩ ⟨_, _, _, rfl⟩ ⟨_, _, _, rfl⟩) ?_)
  simp only [Act.put, List.setIfInBounds_toArray, List.set_cons_zero, List.set_cons_succ]
  generalize hW : World.setRow w3 _ _ = W3
  have hW' : w3.setRow w.heap.size (tdRow (tell (b, l) (evCancel m.id (m.vis + m.hid) 5)).1 (.slice A1 n1 c1) (.slice A2 n2 c2) (.slice A3 n3 c3')) = W3 := hW
  have HVb : Hid (StM w w.heap.size (w.heap.size + 1) (w.heap.size + 1 + 1) (w.heap.size + 1 + 1 + 1) M (tell (b, l) (evCancel m.id (m.vis + m.hid) 5)).1 (tell (b, l) (evCancel m.id (m.vis + m.hid) 5)).2 (.slice A1 n1 c1) (.slice A2 n2 c2) (.slice A3 n3 c3') o m W3) := Lib.hid (by
    rw [← hW']
    exact HVa.out.setT HVa.out.st.lb HVa.out.st.ls HLe.out HVa.out.o1 HVa.out.o2)
  clear hW hW' HVa HLe
  generalize (tell (b, l) (evCancel m.id (m.vis + m.hid) 5)).1 = d1 at *
  generalize (tell (b, l) (evCancel m.id (m.vis + m.hid) 5)).2 = l1 at *
  have HWs := Lib.hid (fun (vl : Value) X (hx : Only Nil W3 X) (hvl : LR X vl (without (m :: r) m.id)) => with_set (s := 3 - o.side) (by have := HS.out; omega) (HVb.out.st.lb.nil hx) (HVb.out.st.ls.nil hx) hvl)
  go_cut [4] from 12 to 172 (fun v4 wc => v4 = .pointer (some ⟨w.heap.size + 1 + 1, 0, none⟩) ∧ Hid (∃ x y, IsSl x ∧ IsSl y ∧ StW w w.heap.size (w.heap.size + 1) (w.heap.size + 1 + 1) (w.heap.size + 1 + 1 + 1) (d1.set (3 - o.side) (without (m :: r) m.id)) l1 x y (.slice A3 n3 c3') o wc))
  case first =>
    obtain ⟨b0, b1, b2, b3, b4, b5, b6, bf, bl⟩ := td_cells HVb.out.st.t
    obtain ⟨o0, o1, o2, o3, o4, o5, o6, of, ol⟩ := co_cells HVb.out.st.o
    obtain ⟨m0, m1, m2, m3, m4, m5, m6, mf, ml⟩ := rs_cellsR HVb.out.m
    go_region_law (first
      | (go_simp; go_at_call 28; (refine (HWo.out _ HVb.out.st.drew.only).mono ?_); rintro e wg ⟨⟨vl, rfl, hlr, hfr⟩, hog⟩;
          (have HOg := Lib.hid (Only.trans (Only.refl Nil W3).drew hog (fun _ _ q => q)));
          (have HLg := Lib.hid hlr);
          (obtain ⟨g0, g1, g2, g3, g4, g5, g6, gf, gl⟩ := td_cells (HVb.out.nil HOg.out).st.t);
          clear hlr hfr hog)
      | (go_simp; go_at_call 27; (obtain ⟨x, y, ix, iy, hwc⟩ := HWs.out _ _ HOg.out HLg.out); (obtain ⟨Ax, nx, cx, rfl⟩ := ix); (obtain ⟨Ay, ny, cy, rfl⟩ := iy); (refine (hwc _ (Only.refl _ _)).mono ?_); rintro e wh ⟨rfl, hx, hy, hoh⟩;
          (have HVw := Lib.hid ((HVb.out.nil HOg.out).nil hoh).st);
          (have HX := Lib.hid hx);
          (have HY := Lib.hid hy);
          (obtain ⟨z0, z1, z2, z3, z4, z5, z6, zf, zl⟩ := td_cells HVw.out.t);
          clear hx hy hoh hwc; unfold bkRow))
    all_goals
      go_wp2
      go_meet
      case rel => exact ⟨rfl, Lib.hid ⟨_, _, ⟨_, _, _, rfl⟩, ⟨_, _, _, rfl⟩, HVw.out.setB HX.out HY.out⟩⟩
  case rest =>
    obtain ⟨rfl, HCt⟩ := hcut
    obtain ⟨x, y, ix, iy, hst⟩ := HCt.out
    obtain ⟨Ax, nx, cx, rfl⟩ := ix
    obtain ⟨Ay, ny, cy, rfl⟩ := iy
    have HV := Lib.hid hst
    clear HCt hst HVb HWs HWo HA
    go_upto_region 12 with fail
    obtain ⟨b0, b1, b2, b3, b4, b5, b6, bf, bl⟩ := td_cells HV.out.t
    obtain ⟨o0, o1, o2, o3, o4, o5, o6, of, ol⟩ := co_cells HV.out.o
    obtain ⟨r0, r1, r2, r3, r4, r5, r6, rf, rl⟩ := td_cells HV.out.r1
    obtain ⟨q0, q1, q2, q3, q4, q5, q6, qf, ql⟩ := co_cells HV.out.r2
    have hR : w.heap.size ≤ w.heap.size + 1 + 1 ∧ w.heap.size ≤ w.heap.size + 1 + 1 + 1 := ⟨by omega, by omega⟩
    have HRt := Lib.hid (fun W1 W2 hW => st_ret (W1 := W1) (W2 := W2) HV.out hR hW)
    clear hR
    go_region_law (fail)
    all_goals
      go_wp2
      show bodyPost _ _ (StepPost (stepR (b, l) o).1 (stepR (b, l) o).2 w) _ _ _
      rw [HE.out]
      generalize hWf : World.setCell _ _ _ = Wf
      have hr := HRt.out _ Wf (by first | exact .inl ⟨rfl, hWf.symm⟩ | exact .inr ⟨rfl, hWf.symm⟩)
      clear hWf
      obtain ⟨hr1, hr2, hr3⟩ := hr
      refine bodyPost_ret (results_two rfl _ _ (w.heap.size + 1 + 1) (w.heap.size + 1 + 1 + 1) tTd tCo _ _ _ _ rfl rfl (blk_drew hr1) (blk_drew hr2) Try.underlying64 rfl infoTd Try.underlying68 rfl infoCo) rfl ?_
      exact ⟨_, _, _, rfl, st_drew hr3⟩
end Ck
end Go.Proofs.Ytcnkbhgdcfckoaa
namespace Go.Proofs.Ytcnkbhgdcfckoaa
open Go.RowKit
namespace Ck
set_option maxHeartbeats 1600000 in
set_option maxRecDepth 100000 in
theorem step_own1 (b : Bk) (l : List Ev) (v1 v2 v3 : Value) (o : Co) (m : Rs) (r : List Rs) (w : World) (h1 : LR w v1 b.buys) (h2 : LR w v2 b.sells) (h3 : LE w v3 l) (hl : l.length ≤ 100000000000) (hq : 0 ≤ b.seq ∧ b.seq < 18446744073709551616) (hn : (m :: r).length ≤ 1000000) (hs : o.side = 1 ∨ o.side = 2) (hd : sideR b (3 - o.side) = m :: r) (hm : OkR m) (hlf : 1 ≤ o.left ∧ o.left ≤ 4294967295) (ho : ownR b o m = true) (hmeet : b.meet = 1) :
    Calls Try.prog 64 #[.agg (tdRow b v1 v2 v3), .agg (coRow o)] w (StepPost (stepR (b, l) o).1 (stepR (b, l) o).2 w) := by
  have HE := Lib.hid ((step_own_eq (l := l) hd ho).trans (own_eq1 hmeet))
  have hw1 : (m.mem != 0) = true ∧ (m.mem == o.mem) = true ∧ (b.meet != 0) = true := by
    unfold ownR at ho
    simp only [Bool.and_eq_true] at ho
    exact ⟨ho.1.1, ho.1.2, ho.2⟩
  obtain ⟨hw1, hw2, hw3⟩ := hw1
  have HMe := Lib.hid hmeet
  have hk1 : (b.meet == 2) = false := by simp [hmeet]
  have hk2 : (b.meet == 1) = true := by simp [hmeet]
  have hk3 : (b.meet == 3) = false := by simp [hmeet]
  clear hmeet ho
  have HQ2 := Lib.hid hq
  clear hq
  obtain ⟨vf, hvf, hve, hc⟩ := side_far h1 h2 (s := 3 - o.side) (by omega)
  clear hve
  rw [hd] at hvf
  obtain ⟨Af, cf, rfl, _, _⟩ := hvf.sl
  have HWo := Lib.hid (fun W ho => without_any _ (m :: r) m.id W (hvf.nil (w1 := W) ho) hn)
  obtain ⟨g, off, rfl, _, _, ha⟩ := hvf.get (i := 0) (r := m) rfl
  have HA := Lib.hid (fun W (ho : Only Nil w W) => (hvf.nil ho).get (i := 0) (r := m) rfl)
  have HNw : Hid ((without (m :: r) m.id).length ≤ 1000000) := Lib.hid (Nat.le_trans (List.length_filter_le _ _) hn)
  have hs1 : 1 ≤ o.side := by omega
  have hs2 : o.side ≤ 2 := by omega
  have i1 := h1.isSl
  have i2 := h2.isSl
  have i3 := h3.isSl
  have hm1 := hm.vis
  have hm2 := hm.hid
  have hm3 := hm.sum
  have hl1 := hlf.1
  have hl2 := hlf.2
  have hni : (0 : Int) < ((m :: r).length : Int) := by simp
  have hnn : 0 < (m :: r).length := by simp
  have HC := Lib.hid hc
  have HV0 := Lib.hid (st_begin (o := o) h1 h2 h3)
  have HS := Lib.hid hs
  have HD := Lib.hid hd
  obtain ⟨A1, n1, c1, rfl⟩ := i1
  obtain ⟨A2, n2, c2, rfl⟩ := i2
  obtain ⟨A3, n3, c3, rfl⟩ := i3
  have HN := Lib.hid hn
  generalize (m :: r).length = N at *
  clear h1 h2 h3 hs hd hc hvf ha hn hm hlf
  go_enter Try.func64, Try.ntmps64
  go_upto_region 1 with fail
  generalize hW : World.alloc (World.alloc (World.alloc (World.alloc w _) _) _) _ = W0
  have hW' : ((((w.alloc (.cells (tdRow b (.slice A1 n1 c1) (.slice A2 n2 c2) (.slice A3 n3 c3)) tTd)).alloc (.cells (coRow o) tCo)).alloc (.cells td0 tTd)).alloc (.cells (coRow zCo) tCo)) = W0 := hW
  rw [hW'] at HV0
  clear hW hW'
  obtain ⟨b0, b1, b2, b3, b4, b5, b6, bf, bl⟩ := td_cells HV0.out.t
  obtain ⟨o0, o1, o2, o3, o4, o5, o6, of, ol⟩ := co_cells HV0.out.o
  go_wp2_with fail
  refine (HC.out _).mono ?_
  rintro e w1 ⟨rfl, ho⟩
  have HV1 := Lib.hid (HV0.out.nil ho)
  clear ho HV0 HC b0 b1 b2 b3 b4 b5 b6 bf bl o0 o1 o2 o3 o4 o5 o6 of ol
  obtain ⟨b0, b1, b2, b3, b4, b5, b6, bf, bl⟩ := td_cells HV1.out.t
  obtain ⟨o0, o1, o2, o3, o4, o5, o6, of, ol⟩ := co_cells HV1.out.o
  obtain ⟨g', off', e2, _, _, ha⟩ := HA.out w1 HV1.out.only
  injection e2 with e2
  injection e2 with e2 e3 _
  subst e2; subst e3
  have a0 := ha.c0
  have a1 := ha.c1
  have a2 := ha.c2
  have a3 := ha.c3
  have a4 := ha.c4
  have a5 := ha.c5
  have a6 := ha.c6
  have lg := ha.lt
  simp only [Nat.zero_mul, Nat.add_zero] at a0 a1 a2 a3 a4 a5 a6
  go_upto_region 4 with (refine wpList_alloc_store rfl tR rfl 8 rfl zR.row laysR rfl (.tmp 21) rfl rfl m.row rfl rfl infoRs rfl (one_row _) ?_)
  simp only [Act.put, List.setIfInBounds_toArray, List.set_cons_zero, List.set_cons_succ]
  generalize hW : World.alloc w1 _ = W2
  have hW' : w1.alloc (.cells m.row tR) = W2 := hW
  have HV2 : Hid (StM w w.heap.size (w.heap.size + 1) (w.heap.size + 1 + 1) (w.heap.size + 1 + 1 + 1) w1.heap.size b l (.slice A1 n1 c1) (.slice A2 n2 c2) (.slice A3 n3 c3) o m W2) := Lib.hid (by
    rw [← hW']
    exact ⟨HV1.out.alloc _, blk_new _ _, HV1.out.only.size, HV1.out.lb.off_new (Nat.le_refl _), HV1.out.ls.off_new (Nat.le_refl _)⟩)
  clear hW hW' HV1 a0 a1 a2 a3 a4 a5 a6 lg ha b0 b1 b2 b3 b4 b5 b6 bf bl o0 o1 o2 o3 o4 o5 o6 of ol
  generalize w1.heap.size = M at *
  obtain ⟨b0, b1, b2, b3, b4, b5, b6, bf, bl⟩ := td_cells HV2.out.st.t
  obtain ⟨o0, o1, o2, o3, o4, o5, o6, of, ol⟩ := co_cells HV2.out.st.o
  obtain ⟨m0, m1, m2, m3, m4, m5, m6, mf, ml⟩ := rs_cellsR HV2.out.m
  have HTl3 := Lib.hid (fun W hW => tell_any b l (evCancel o.id o.left 5) (.slice A1 n1 c1) (.slice A2 n2 c2) (.slice A3 n3 c3) W ⟨_, _, _, rfl⟩ ⟨_, _, _, rfl⟩ hW (by omega) HQ2.out)
  go_wp2_with fail
  refine (HTl3.out _ HV2.out.st.le).mono ?_
  rintro e w3 ⟨⟨v3', rfl, hle⟩, ho⟩
  obtain ⟨A3, n3, c3', rfl⟩ := hle.isSl
  have HVa := Lib.hid (HV2.out.nil ho)
  have HLe := Lib.hid hle
  have HQ3 := Lib.hid (wrapU_range (b.seq + 1))
  have HB3 : Hid ((tell (b, l) (evCancel o.id o.left 5)).1 = { b with seq := wrapU (b.seq + 1) }) := Lib.hid rfl
  have hl3 : (tell (b, l) (evCancel o.id o.left 5)).2.length ≤ 100000000002 + 3 := by rw [(tell_fields b l (evCancel o.id o.left 5)).2, List.length_append]; simp only [List.length_cons, List.length_nil]; omega
  clear ho hle HTl3 HV2 b0 b1 b2 b3 b4 b5 b6 bf bl o0 o1 o2 o3 o4 o5 o6 of ol m0 m1 m2 m3 m4 m5 m6 mf ml
  go_upto_region 11 with (refine wpList_store_row rfl tTd (.tmp 2) (.tmp 80) rfl _ rfl (tdRow (tell (b, l) (evCancel o.id o.left 5)).1 (.slice A1 n1 c1) (.slice A2 n2 c2) (.slice A3 n3 c3')) _ rfl _ HVa.out.st.t infoTd rfl (one_td _ ⟨_, _, _, rfl⟩ ⟨_, _, _, rfl⟩ ⟨_, _, _, rfl⟩) ?_)
  simp only [Act.put, List.setIfInBounds_toArray, List.set_cons_zero, List.set_cons_succ]
  generalize hW : World.setRow w3 _ _ = W3
  have hW' : w3.setRow w.heap.size (tdRow (tell (b, l) (evCancel o.id o.left 5)).1 (.slice A1 n1 c1) (.slice A2 n2 c2) (.slice A3 n3 c3')) = W3 := hW
  have HVb : Hid (StM w w.heap.size (w.heap.size + 1) (w.heap.size + 1 + 1) (w.heap.size + 1 + 1 + 1) M (tell (b, l) (evCancel o.id o.left 5)).1 (tell (b, l) (evCancel o.id o.left 5)).2 (.slice A1 n1 c1) (.slice A2 n2 c2) (.slice A3 n3 c3') o m W3) := Lib.hid (by
    rw [← hW']
    exact HVa.out.setT HVa.out.st.lb HVa.out.st.ls HLe.out HVa.out.o1 HVa.out.o2)
  clear hW hW' HVa HLe
  generalize (tell (b, l) (evCancel o.id o.left 5)).1 = d1 at *
  generalize (tell (b, l) (evCancel o.id o.left 5)).2 = l1 at *
  obtain ⟨b0, b1, b2, b3, b4, b5, b6, bf, bl⟩ := td_cells HVb.out.st.t
  obtain ⟨o0, o1, o2, o3, o4, o5, o6, of, ol⟩ := co_cells HVb.out.st.o
  obtain ⟨m0, m1, m2, m3, m4, m5, m6, mf, ml⟩ := rs_cellsR HVb.out.m
  go_upto_region 12 with fail
  generalize hW : World.setCell _ _ _ = W9
  have HV : Hid (StW w w.heap.size (w.heap.size + 1) (w.heap.size + 1 + 1) (w.heap.size + 1 + 1 + 1) d1 l1 (.slice A1 n1 c1) (.slice A2 n2 c2) (.slice A3 n3 c3') { o with left := 0 } W9) := Lib.hid (by
    rw [← hW]
    exact (HVb.out.setO1 (o' := { o with left := 0 }) rfl).st)
  clear hW HVb b0 b1 b2 b3 b4 b5 b6 bf bl o0 o1 o2 o3 o4 o5 o6 of ol m0 m1 m2 m3 m4 m5 m6 mf ml
  generalize ({ o with left := 0 } : Co) = oz at *
  obtain ⟨b0, b1, b2, b3, b4, b5, b6, bf, bl⟩ := td_cells HV.out.t
  obtain ⟨o0, o1, o2, o3, o4, o5, o6, of, ol⟩ := co_cells HV.out.o
  obtain ⟨r0, r1, r2, r3, r4, r5, r6, rf, rl⟩ := td_cells HV.out.r1
  obtain ⟨q0, q1, q2, q3, q4, q5, q6, qf, ql⟩ := co_cells HV.out.r2
  have hR : w.heap.size ≤ w.heap.size + 1 + 1 ∧ w.heap.size ≤ w.heap.size + 1 + 1 + 1 := ⟨by omega, by omega⟩
  have HRt := Lib.hid (fun W1 W2 hW => st_ret (W1 := W1) (W2 := W2) HV.out hR hW)
  clear hR
  go_region_law (fail)
  all_goals
    go_wp2
    show bodyPost _ _ (StepPost (stepR (b, l) o).1 (stepR (b, l) o).2 w) _ _ _
    rw [HE.out]
    generalize hWf : World.setCell _ _ _ = Wf
    have hr := HRt.out _ Wf (by first | exact .inl ⟨rfl, hWf.symm⟩ | exact .inr ⟨rfl, hWf.symm⟩)
    clear hWf
    obtain ⟨hr1, hr2, hr3⟩ := hr
    refine bodyPost_ret (results_two rfl _ _ (w.heap.size + 1 + 1) (w.heap.size + 1 + 1 + 1) tTd tCo _ _ _ _ rfl rfl (blk_drew hr1) (blk_drew hr2) Try.underlying64 rfl infoTd Try.underlying68 rfl infoCo) rfl ?_
    exact ⟨_, _, _, rfl, st_drew hr3⟩
end Ck
end Go.Proofs.Ytcnkbhgdcfckoaa
namespace Go.Proofs.Ytcnkbhgdcfckoaa
open Go.RowKit
namespace Ck
set_option maxHeartbeats 1600000 in
set_option maxRecDepth 100000 in
theorem step_own3 (b : Bk) (l : List Ev) (v1 v2 v3 : Value) (o : Co) (m : Rs) (r : List Rs) (w : World) (h1 : LR w v1 b.buys) (h2 : LR w v2 b.sells) (h3 : LE w v3 l) (hl : l.length ≤ 100000000000) (hq : 0 ≤ b.seq ∧ b.seq < 18446744073709551616) (hn : (m :: r).length ≤ 1000000) (hs : o.side = 1 ∨ o.side = 2) (hd : sideR b (3 - o.side) = m :: r) (hm : OkR m) (hlf : 1 ≤ o.left ∧ o.left ≤ 4294967295) (ho : ownR b o m = true) (hmeet : b.meet = 3) :
    Calls Try.prog 64 #[.agg (tdRow b v1 v2 v3), .agg (coRow o)] w (StepPost (stepR (b, l) o).1 (stepR (b, l) o).2 w) := by
  have HE := Lib.hid ((step_own_eq (l := l) hd ho).trans (own_eq3 hmeet))
  have hw1 : (m.mem != 0) = true ∧ (m.mem == o.mem) = true ∧ (b.meet != 0) = true := by
    unfold ownR at ho
    simp only [Bool.and_eq_true] at ho
    exact ⟨ho.1.1, ho.1.2, ho.2⟩
  obtain ⟨hw1, hw2, hw3⟩ := hw1
  have HMe := Lib.hid hmeet
  have hk1 : (b.meet == 2) = false := by simp [hmeet]
  have hk2 : (b.meet == 1) = false := by simp [hmeet]
  have hk3 : (b.meet == 3) = true := by simp [hmeet]
  clear hmeet ho
  have HQ2 := Lib.hid hq
  clear hq
  obtain ⟨vf, hvf, hve, hc⟩ := side_far h1 h2 (s := 3 - o.side) (by omega)
  clear hve
  rw [hd] at hvf
  obtain ⟨Af, cf, rfl, _, _⟩ := hvf.sl
  have HWo := Lib.hid (fun W ho => without_any _ (m :: r) m.id W (hvf.nil (w1 := W) ho) hn)
  obtain ⟨g, off, rfl, _, _, ha⟩ := hvf.get (i := 0) (r := m) rfl
  have HA := Lib.hid (fun W (ho : Only Nil w W) => (hvf.nil ho).get (i := 0) (r := m) rfl)
  have HNw : Hid ((without (m :: r) m.id).length ≤ 1000000) := Lib.hid (Nat.le_trans (List.length_filter_le _ _) hn)
  have hs1 : 1 ≤ o.side := by omega
  have hs2 : o.side ≤ 2 := by omega
  have i1 := h1.isSl
  have i2 := h2.isSl
  have i3 := h3.isSl
  have hm1 := hm.vis
  have hm2 := hm.hid
  have hm3 := hm.sum
  have hl1 := hlf.1
  have hl2 := hlf.2
  have hni : (0 : Int) < ((m :: r).length : Int) := by simp
  have hnn : 0 < (m :: r).length := by simp
  have HC := Lib.hid hc
  have HV0 := Lib.hid (st_begin (o := o) h1 h2 h3)
  have HS := Lib.hid hs
  have HD := Lib.hid hd
  obtain ⟨A1, n1, c1, rfl⟩ := i1
  obtain ⟨A2, n2, c2, rfl⟩ := i2
  obtain ⟨A3, n3, c3, rfl⟩ := i3
  have HN := Lib.hid hn
  generalize (m :: r).length = N at *
  clear h1 h2 h3 hs hd hc hvf ha hn hm hlf
  go_enter Try.func64, Try.ntmps64
  go_upto_region 1 with fail
  generalize hW : World.alloc (World.alloc (World.alloc (World.alloc w _) _) _) _ = W0
  have hW' : ((((w.alloc (.cells (tdRow b (.slice A1 n1 c1) (.slice A2 n2 c2) (.slice A3 n3 c3)) tTd)).alloc (.cells (coRow o) tCo)).alloc (.cells td0 tTd)).alloc (.cells (coRow zCo) tCo)) = W0 := hW
  rw [hW'] at HV0
  clear hW hW'
  obtain ⟨b0, b1, b2, b3, b4, b5, b6, bf, bl⟩ := td_cells HV0.out.t
  obtain ⟨o0, o1, o2, o3, o4, o5, o6, of, ol⟩ := co_cells HV0.out.o
  go_wp2_with fail
  refine (HC.out _).mono ?_
  rintro e w1 ⟨rfl, ho⟩
  have HV1 := Lib.hid (HV0.out.nil ho)
  clear ho HV0 HC b0 b1 b2 b3 b4 b5 b6 bf bl o0 o1 o2 o3 o4 o5 o6 of ol
  obtain ⟨b0, b1, b2, b3, b4, b5, b6, bf, bl⟩ := td_cells HV1.out.t
  obtain ⟨o0, o1, o2, o3, o4, o5, o6, of, ol⟩ := co_cells HV1.out.o
  obtain ⟨g', off', e2, _, _, ha⟩ := HA.out w1 HV1.out.only
  injection e2 with e2
  injection e2 with e2 e3 _
  subst e2; subst e3
  have a0 := ha.c0
  have a1 := ha.c1
  have a2 := ha.c2
  have a3 := ha.c3
  have a4 := ha.c4
  have a5 := ha.c5
  have a6 := ha.c6
  have lg := ha.lt
  simp only [Nat.zero_mul, Nat.add_zero] at a0 a1 a2 a3 a4 a5 a6
  go_upto_region 4 with (refine wpList_alloc_store rfl tR rfl 8 rfl zR.row laysR rfl (.tmp 21) rfl rfl m.row rfl rfl infoRs rfl (one_row _) ?_)
  simp only [Act.put, List.setIfInBounds_toArray, List.set_cons_zero, List.set_cons_succ]
  generalize hW : World.alloc w1 _ = W2
  have hW' : w1.alloc (.cells m.row tR) = W2 := hW
  have HV2 : Hid (StM w w.heap.size (w.heap.size + 1) (w.heap.size + 1 + 1) (w.heap.size + 1 + 1 + 1) w1.heap.size b l (.slice A1 n1 c1) (.slice A2 n2 c2) (.slice A3 n3 c3) o m W2) := Lib.hid (by
    rw [← hW']
    exact ⟨HV1.out.alloc _, blk_new _ _, HV1.out.only.size, HV1.out.lb.off_new (Nat.le_refl _), HV1.out.ls.off_new (Nat.le_refl _)⟩)
  clear hW hW' HV1 a0 a1 a2 a3 a4 a5 a6 lg ha b0 b1 b2 b3 b4 b5 b6 bf bl o0 o1 o2 o3 o4 o5 o6 of ol
  generalize w1.heap.size = M at *
  obtain ⟨b0, b1, b2, b3, b4, b5, b6, bf, bl⟩ := td_cells HV2.out.st.t
  obtain ⟨o0, o1, o2, o3, o4, o5, o6, of, ol⟩ := co_cells HV2.out.st.o
  obtain ⟨m0, m1, m2, m3, m4, m5, m6, mf, ml⟩ := rs_cellsR HV2.out.m
  have HTl3 := Lib.hid (fun W hW => tell_any b l (evCancel m.id (m.vis + m.hid) 5) (.slice A1 n1 c1) (.slice A2 n2 c2) (.slice A3 n3 c3) W ⟨_, _, _, rfl⟩ ⟨_, _, _, rfl⟩ hW (by omega) HQ2.out)
  go_wp2_with fail
  refine (HTl3.out _ HV2.out.st.le).mono ?_
  rintro e w3 ⟨⟨v3', rfl, hle⟩, ho⟩
  obtain ⟨A3, n3, c3', rfl⟩ := hle.isSl
  have HVa := Lib.hid (HV2.out.nil ho)
  have HLe := Lib.hid hle
  have HQ3 := Lib.hid (wrapU_range (b.seq + 1))
  have HB3 : Hid ((tell (b, l) (evCancel m.id (m.vis + m.hid) 5)).1 = { b with seq := wrapU (b.seq + 1) }) := Lib.hid rfl
  have hl3 : (tell (b, l) (evCancel m.id (m.vis + m.hid) 5)).2.length ≤ 100000000002 + 3 := by rw [(tell_fields b l (evCancel m.id (m.vis + m.hid) 5)).2, List.length_append]; simp only [List.length_cons, List.length_nil]; omega
  clear ho hle HTl3 HV2 b0 b1 b2 b3 b4 b5 b6 bf bl o0 o1 o2 o3 o4 o5 o6 of ol m0 m1 m2 m3 m4 m5 m6 mf ml
  go_upto_region 8 with (refine wpList_store_row rfl tTd (.tmp 2) (.tmp 58) rfl _ rfl (tdRow (tell (b, l) (evCancel m.id (m.vis + m.hid) 5)).1 (.slice A1 n1 c1) (.slice A2 n2 c2) (.slice A3 n3 c3')) _ rfl _ HVa.out.st.t infoTd rfl (one_td _ ⟨_, _, _, rfl⟩ ⟨_, _, _, rfl⟩ ⟨_, _, _, rfl⟩) ?_)
  simp only [Act.put, List.setIfInBounds_toArray, List.set_cons_zero, List.set_cons_succ]
  generalize hW : World.setRow w3 _ _ = W3
  have hW' : w3.setRow w.heap.size (tdRow (tell (b, l) (evCancel m.id (m.vis + m.hid) 5)).1 (.slice A1 n1 c1) (.slice A2 n2 c2) (.slice A3 n3 c3')) = W3 := hW
  have HVb : Hid (StM w w.heap.size (w.heap.size + 1) (w.heap.size + 1 + 1) (w.heap.size + 1 + 1 + 1) M (tell (b, l) (evCancel m.id (m.vis + m.hid) 5)).1 (tell (b, l) (evCancel m.id (m.vis + m.hid) 5)).2 (.slice A1 n1 c1) (.slice A2 n2 c2) (.slice A3 n3 c3') o m W3) := Lib.hid (by
    rw [← hW']
    exact HVa.out.setT HVa.out.st.lb HVa.out.st.ls HLe.out HVa.out.o1 HVa.out.o2)
  clear hW hW' HVa HLe
  generalize (tell (b, l) (evCancel m.id (m.vis + m.hid) 5)).1 = d1 at *
  generalize (tell (b, l) (evCancel m.id (m.vis + m.hid) 5)).2 = l1 at *
  have HWs := Lib.hid (fun (vl : Value) X (hx : Only Nil W3 X) (hvl : LR X vl (without (m :: r) m.id)) => with_set (s := 3 - o.side) (by have := HS.out; omega) (HVb.out.st.lb.nil hx) (HVb.out.st.ls.nil hx) hvl)
  go_cut [4] from 12 to 172 (fun v4 wc => v4 = .pointer (some ⟨w.heap.size + 1 + 1, 0, none⟩) ∧ Hid (∃ x y, IsSl x ∧ IsSl y ∧ StW w w.heap.size (w.heap.size + 1) (w.heap.size + 1 + 1) (w.heap.size + 1 + 1 + 1) (d1.set (3 - o.side) (without (m :: r) m.id)) l1 x y (.slice A3 n3 c3') o wc))
  case first =>
    obtain ⟨b0, b1, b2, b3, b4, b5, b6, bf, bl⟩ := td_cells HVb.out.st.t
    obtain ⟨o0, o1, o2, o3, o4, o5, o6, of, ol⟩ := co_cells HVb.out.st.o
    obtain ⟨m0, m1, m2, m3, m4, m5, m6, mf, ml⟩ := rs_cellsR HVb.out.m
    go_region_law (first
      | (go_simp; go_at_call 28; (refine (HWo.out _ HVb.out.st.drew.only).mono ?_); rintro e wg ⟨⟨vl, rfl, hlr, hfr⟩, hog⟩;
          (have HOg := Lib.hid (Only.trans (Only.refl Nil W3).drew hog (fun _ _ q => q)));
          (have HLg := Lib.hid hlr);
          (obtain ⟨g0, g1, g2, g3, g4, g5, g6, gf, gl⟩ := td_cells (HVb.out.nil HOg.out).st.t);
          clear hlr hfr hog)
      | (go_simp; go_at_call 27; (obtain ⟨x, y, ix, iy, hwc⟩ := HWs.out _ _ HOg.out HLg.out); (obtain ⟨Ax, nx, cx, rfl⟩ := ix); (obtain ⟨Ay, ny, cy, rfl⟩ := iy); (refine (hwc _ (Only.refl _ _)).mono ?_); rintro e wh ⟨rfl, hx, hy, hoh⟩;
          (have HVw := Lib.hid ((HVb.out.nil HOg.out).nil hoh).st);
          (have HX := Lib.hid hx);
          (have HY := Lib.hid hy);
          (obtain ⟨z0, z1, z2, z3, z4, z5, z6, zf, zl⟩ := td_cells HVw.out.t);
          clear hx hy hoh hwc; unfold bkRow))
    all_goals
      go_wp2
      go_meet
      case rel => exact ⟨rfl, Lib.hid ⟨_, _, ⟨_, _, _, rfl⟩, ⟨_, _, _, rfl⟩, HVw.out.setB HX.out HY.out⟩⟩
  case rest =>
    obtain ⟨rfl, HCt⟩ := hcut
    obtain ⟨x, y, ix, iy, hst⟩ := HCt.out
    obtain ⟨Ax, nx, cx, rfl⟩ := ix
    obtain ⟨Ay, ny, cy, rfl⟩ := iy
    have HV := Lib.hid hst
    clear HCt hst HVb HWs HWo HA
    have HQ5 : Hid (0 ≤ (d1.set (3 - o.side) (without (m :: r) m.id)).seq ∧ (d1.set (3 - o.side) (without (m :: r) m.id)).seq < 18446744073709551616) := Lib.hid (by
      rw [(d1.set_fields _ _).2.2.2, HB3.out]
      exact wrapU_range _)
    have HV6 := HV
    clear HV
    obtain ⟨b0, b1, b2, b3, b4, b5, b6, bf, bl⟩ := td_cells HV6.out.t
    obtain ⟨o0, o1, o2, o3, o4, o5, o6, of, ol⟩ := co_cells HV6.out.o
    have HTl6 := Lib.hid (fun W hW => tell_any (d1.set (3 - o.side) (without (m :: r) m.id)) l1 (evCancel o.id o.left 5) (.slice Ax nx cx) (.slice Ay ny cy) (.slice A3 n3 c3') W ⟨_, _, _, rfl⟩ ⟨_, _, _, rfl⟩ hW (by omega) HQ5.out)
    go_wp2_with fail
    refine (HTl6.out _ HV6.out.le).mono ?_
    rintro e w6 ⟨⟨v3', rfl, hle⟩, ho⟩
    obtain ⟨A3, n3, c3', rfl⟩ := hle.isSl
    have HVa := Lib.hid (HV6.out.nil ho)
    have HLe := Lib.hid hle
    have HQ6 := Lib.hid (wrapU_range ((d1.set (3 - o.side) (without (m :: r) m.id)).seq + 1))
    have HB6 : Hid ((tell ((d1.set (3 - o.side) (without (m :: r) m.id)), l1) (evCancel o.id o.left 5)).1 = { (d1.set (3 - o.side) (without (m :: r) m.id)) with seq := wrapU ((d1.set (3 - o.side) (without (m :: r) m.id)).seq + 1) }) := Lib.hid rfl
    have hl6 : (tell ((d1.set (3 - o.side) (without (m :: r) m.id)), l1) (evCancel o.id o.left 5)).2.length ≤ 100000000002 + 6 := by rw [(tell_fields (d1.set (3 - o.side) (without (m :: r) m.id)) l1 (evCancel o.id o.left 5)).2, List.length_append]; simp only [List.length_cons, List.length_nil]; omega
    clear ho hle HTl6 HV6 b0 b1 b2 b3 b4 b5 b6 bf bl o0 o1 o2 o3 o4 o5 o6 of ol
    go_upto_region 11 with (refine wpList_store_row rfl tTd (.tmp 2) (.tmp 80) rfl _ rfl (tdRow (tell ((d1.set (3 - o.side) (without (m :: r) m.id)), l1) (evCancel o.id o.left 5)).1 (.slice Ax nx cx) (.slice Ay ny cy) (.slice A3 n3 c3')) _ rfl _ HVa.out.t infoTd rfl (one_td _ ⟨_, _, _, rfl⟩ ⟨_, _, _, rfl⟩ ⟨_, _, _, rfl⟩) ?_)
    simp only [Act.put, List.setIfInBounds_toArray, List.set_cons_zero, List.set_cons_succ]
    generalize hW : World.setRow w6 _ _ = W6
    have hW' : w6.setRow w.heap.size (tdRow (tell ((d1.set (3 - o.side) (without (m :: r) m.id)), l1) (evCancel o.id o.left 5)).1 (.slice Ax nx cx) (.slice Ay ny cy) (.slice A3 n3 c3')) = W6 := hW
    have HVb : Hid (StW w w.heap.size (w.heap.size + 1) (w.heap.size + 1 + 1) (w.heap.size + 1 + 1 + 1) (tell ((d1.set (3 - o.side) (without (m :: r) m.id)), l1) (evCancel o.id o.left 5)).1 (tell ((d1.set (3 - o.side) (without (m :: r) m.id)), l1) (evCancel o.id o.left 5)).2 (.slice Ax nx cx) (.slice Ay ny cy) (.slice A3 n3 c3') o W6) := Lib.hid (by
      rw [← hW']
      exact HVa.out.setT HVa.out.lb HVa.out.ls HLe.out)
    clear hW hW' HVa HLe
    generalize (tell ((d1.set (3 - o.side) (without (m :: r) m.id)), l1) (evCancel o.id o.left 5)).1 = d2 at *
    generalize (tell ((d1.set (3 - o.side) (without (m :: r) m.id)), l1) (evCancel o.id o.left 5)).2 = l2 at *
    obtain ⟨b0, b1, b2, b3, b4, b5, b6, bf, bl⟩ := td_cells HVb.out.t
    obtain ⟨o0, o1, o2, o3, o4, o5, o6, of, ol⟩ := co_cells HVb.out.o
    go_upto_region 12 with fail
    generalize hW : World.setCell _ _ _ = W9
    have HV : Hid (StW w w.heap.size (w.heap.size + 1) (w.heap.size + 1 + 1) (w.heap.size + 1 + 1 + 1) d2 l2 (.slice Ax nx cx) (.slice Ay ny cy) (.slice A3 n3 c3') { o with left := 0 } W9) := Lib.hid (by
      rw [← hW]
      exact (HVb.out.setO1 (o' := { o with left := 0 }) rfl))
    clear hW HVb b0 b1 b2 b3 b4 b5 b6 bf bl o0 o1 o2 o3 o4 o5 o6 of ol
    generalize ({ o with left := 0 } : Co) = oz at *
    obtain ⟨b0, b1, b2, b3, b4, b5, b6, bf, bl⟩ := td_cells HV.out.t
    obtain ⟨o0, o1, o2, o3, o4, o5, o6, of, ol⟩ := co_cells HV.out.o
    obtain ⟨r0, r1, r2, r3, r4, r5, r6, rf, rl⟩ := td_cells HV.out.r1
    obtain ⟨q0, q1, q2, q3, q4, q5, q6, qf, ql⟩ := co_cells HV.out.r2
    have hR : w.heap.size ≤ w.heap.size + 1 + 1 ∧ w.heap.size ≤ w.heap.size + 1 + 1 + 1 := ⟨by omega, by omega⟩
    have HRt := Lib.hid (fun W1 W2 hW => st_ret (W1 := W1) (W2 := W2) HV.out hR hW)
    clear hR
    go_region_law (fail)
    all_goals
      go_wp2
      show bodyPost _ _ (StepPost (stepR (b, l) o).1 (stepR (b, l) o).2 w) _ _ _
      rw [HE.out]
      generalize hWf : World.setCell _ _ _ = Wf
      have hr := HRt.out _ Wf (by first | exact .inl ⟨rfl, hWf.symm⟩ | exact .inr ⟨rfl, hWf.symm⟩)
      clear hWf
      obtain ⟨hr1, hr2, hr3⟩ := hr
      refine bodyPost_ret (results_two rfl _ _ (w.heap.size + 1 + 1) (w.heap.size + 1 + 1 + 1) tTd tCo _ _ _ _ rfl rfl (blk_drew hr1) (blk_drew hr2) Try.underlying64 rfl infoTd Try.underlying68 rfl infoCo) rfl ?_
      exact ⟨_, _, _, rfl, st_drew hr3⟩
end Ck
end Go.Proofs.Ytcnkbhgdcfckoaa
