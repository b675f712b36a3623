/- The walk of the document's Do, a Cancel. -/
import Derived.Test.YtcnkbhgdcfckoaaNn
set_option linter.unusedVariables false
set_option linter.unusedSimpArgs false
namespace Go.Proofs.Ytcnkbhgdcfckoaa
open Go.RowKit
namespace Ck
theorem find_mem {b : Bk} (hb : OkB b) {id s : Int} {m : Rs} (h : findR b id = some (m, s)) : (s = 1 ∨ s = 2) ∧ OkR m := by
  unfold findR at h
  split at h
  · rename_i r hr
    injection h with h
    injection h with h1 h2
    subst h1
    exact ⟨.inl h2.symm, hb.buys _ (List.mem_of_find?_eq_some hr)⟩
  · split at h
    · rename_i r hr
      injection h with h
      injection h with h1 h2
      subst h1
      exact ⟨.inr h2.symm, hb.sells _ (List.mem_of_find?_eq_some hr)⟩
    · cases h
theorem iv_rep {a : Bk} {e : Ev} {o : Co} {s id : Int} (hb : OkB a) (hm : a.meet = 0 ∨ a.meet = 1 ∨ a.meet = 2 ∨ a.meet = 3) (h1 : a.buys.length ≤ 90000) (h2 : a.sells.length ≤ 90000) (hs : s = 1 ∨ s = 2) (ho : o.side = 1 ∨ o.side = 2) (hl : 0 ≤ o.left ∧ o.left ≤ 4294967295) :
    Iv iv0 100000 100000 ({ (tell ((tell (a, []) e).1.set s (without (sideR (tell (a, []) e).1 s) id), (tell (a, []) e).2) (evAcked o)).1 with high := o.id }, (tell ((tell (a, []) e).1.set s (without (sideR (tell (a, []) e).1 s) id), (tell (a, []) e).2) (evAcked o)).2) o := by
  have hb1 : OkB (tell (a, []) e).1 := OkB.tell (t := (a, [])) hb e
  have hl1 := set_len (b := (tell (a, []) e).1) (s := s) (l := without (sideR (tell (a, []) e).1 s) id) (NB := 90000) (NS := 90000) hs h1 h2 (List.length_filter_le _ _)
  refine iv_ack (b := (tell (a, []) e).1.set s (without (sideR (tell (a, []) e).1 s) id)) (l := (tell (a, []) e).2) (o := o) (hb1.set s ((hb1.side s).without id)) ?_ ?_ (by omega) (by omega) ?_ ho hl
  · rw [set_seq']; exact wr_range _
  · rw [set_meet']; exact hm
  · show ([] ++ [_]).length ≤ 5; simp
set_option maxHeartbeats 3200000 in
set_option maxRecDepth 100000 in
theorem do_cancel (a : Bk) (x1 x2 : Value) (c : Cm) (w : World) (h1 : LR w x1 a.buys) (h2 : LR w x2 a.sells) (hw : c.wf) (hn1 : a.buys.length ≤ 90000) (hn2 : a.sells.length ≤ 90000) (hok : OkB a) (hq : 0 ≤ a.seq ∧ a.seq < 18446744073709551616) (hm : a.meet = 0 ∨ a.meet = 1 ∨ a.meet = 2 ∨ a.meet = 3) (hr : refusedR a c = 0) (hk : c.kind = 2) :
    Calls Try.prog 9 #[.agg (bkRow a x1 x2), .agg (cmRow c)] w (DoPost (doR a c) w) := by
  have HCp := Lib.hid (fun W (ho : Only Nil w W) => copy_any a x1 x2 W (h1.nil ho) (h2.nil ho) (by omega) (by omega))
  have HRf := Lib.hid (fun W (ho : Only Nil w W) => refusedR_any a x1 x2 c W (h1.nil ho) (h2.nil ho) hw (by omega) (by omega))
  obtain ⟨m, s, hf⟩ := (accepted hr).1 (by omega)
  have hfd := find_mem hok hf
  have HFi := Lib.hid (fun W (ho : Only Nil w W) => findR_any a x1 x2 c.target W (h1.nil ho) (h2.nil ho))
  rw [hf] at HFi
  have hwr : IntKind.u64.wrap (m.vis + m.hid) = m.vis + m.hid := by
    have q1 := hfd.2.sum
    have q2 := hfd.2.vis
    have q3 := hfd.2.hid
    rw [IntKind.wrap_u64]; omega
  have HSd := Lib.hid hfd.1
  have HE : Hid (doR a c = ((tell (a, []) (evCancel m.id (m.vis + m.hid) 1)).1.set s (without (sideR (tell (a, []) (evCancel m.id (m.vis + m.hid) 1)).1 s) m.id), (tell (a, []) (evCancel m.id (m.vis + m.hid) 1)).2)) := Lib.hid (by unfold doR; rw [if_neg (by omega), if_neg (by omega)]; simp only [hf]; rw [if_neg (show ¬ (c.kind = 3) by omega), if_pos hk]; rfl)
  have HN1 := Lib.hid hn1
  have HN2 := Lib.hid hn2
  rw [hr] at HRf
  have hkb : (c.kind != 1) = true := by simp [hk]
  have hk3b : (c.kind == 3) = false := by simp [hk]
  have hk2b : (c.kind == 2) = true := by simp [hk]
  clear hr hm hok hw hk hf hfd
  have HL1 := Lib.hid h1
  have HL2 := Lib.hid h2
  have HQ := Lib.hid hq
  obtain ⟨A1, c1, rfl, q1, q2⟩ := h1.sl
  obtain ⟨A2, c2, rfl, q3, q4⟩ := h2.sl
  clear q1 q2 q3 q4 h1 h2 hn1 hn2 hq
  obtain ⟨hb1, hb2, hb3, hb4⟩ := do_begin (a := a) (x1 := (.slice A1 a.buys.length c1)) (x2 := (.slice A2 a.sells.length c2)) (c := c) (w := w)
  have HK0 := Lib.hid hb1
  have HC0 := Lib.hid hb2
  have HR0 := Lib.hid hb3
  have HO0 := Lib.hid hb4
  clear hb1 hb2 hb3 hb4
  go_enter Try.func9, Try.ntmps9
  go_upto_region 1 with fail
  generalize hW : World.alloc (World.alloc (World.alloc w _) _) _ = W0
  have hW' : (((w.alloc (.cells (bkRow a (.slice A1 a.buys.length c1) (.slice A2 a.sells.length c2)) tBk)).alloc (.cells (cmRow c) tCm)).alloc (.cells bk0R tBk)) = W0 := hW
  rw [hW'] at HK0 HC0 HR0 HO0
  clear hW hW'
  obtain ⟨b0, b1, b2, b3, b4, b5, bf, bl⟩ := blk_cellsof HK0.out
  go_wp2_with fail
  refine (HCp.out _ HO0.out).mono ?_
  rintro e w1 ⟨⟨v1, v2, rfl, hv1, hv2⟩, ho⟩
  obtain ⟨B1, m1, d1, rfl⟩ := hv1.isSl
  obtain ⟨B2, m2, d2, rfl⟩ := hv2.isSl
  have HK1 := Lib.hid (ho.blk HK0.out (fun q => q))
  have HC1 := Lib.hid (ho.blk HC0.out (fun q => q))
  have HR1 := Lib.hid (ho.blk HR0.out (fun q => q))
  have HO1 := Lib.hid (HO0.out.trans (S := Nil) ho (fun _ _ q => q))
  have Hv1 := Lib.hid hv1
  have Hv2 := Lib.hid hv2
  clear ho HK0 HC0 HR0 HO0 hv1 hv2 HCp b0 b1 b2 b3 b4 b5 bf bl
  have hbld := build_td a B1 m1 d1 B2 m2 d2
  unfold bkRow
  go_upto_region 2 with fail
  generalize hW : World.alloc w1 _ = W2
  have hW' : w1.alloc (.cells (tdRow a (.slice B1 m1 d1) (.slice B2 m2 d2) (.slice none 0 0)) tTd) = W2 := hW
  have ho2 : Only Nil w1 W2 := by rw [← hW']; exact (Only.refl _ _).alloc _
  have HT0 : Hid (W2.heap[w1.heap.size]? = some (.cells (tdRow a (.slice B1 m1 d1) (.slice B2 m2 d2) (.slice none 0 0)) tTd (0, 0))) := Lib.hid (by rw [← hW']; exact blk_new _ _)
  have HTn := Lib.hid HO1.out.size
  have HV : Hid (DoW w w1.heap.size a (.slice A1 a.buys.length c1) (.slice A2 a.sells.length c2) c a [] (.slice B1 m1 d1) (.slice B2 m2 d2) (.slice none 0 0) W2) := Lib.hid ⟨ho2.blk HK1.out (fun q => q), ho2.blk HC1.out (fun q => q), ho2.blk HR1.out (fun q => q), HT0.out,
    (HL1.out.nil HO1.out).nil ho2, (HL2.out.nil HO1.out).nil ho2, Hv1.out.nil ho2, Hv2.out.nil ho2, Lst.empty none 0 (by omega), HO1.out.trans ho2 (fun _ _ q => q), HTn.out⟩
  have hTr : w1.heap.size ≠ w.heap.size + 1 + 1 := by have := blk_lt HR1.out; omega
  clear hW hW' ho2 HT0 HTn HK1 HC1 HR1 HO1 Hv1 Hv2 HL1 HL2 hbld
  generalize w1.heap.size = T at *
  obtain ⟨b0, b1, b2, b3, b4, b5, bf, bl⟩ := blk_cellsof HV.out.k
  obtain ⟨d0, d1', d2', d3, d4, d5, d6, d7, d8, df, dl⟩ := cm_cells HV.out.c
  go_wp2_with fail
  refine (HRf.out _ HV.out.only).mono ?_
  rintro e w2 ⟨rfl, ho⟩
  have HV2 := Lib.hid (HV.out.nil ho)
  clear ho HV HRf b0 b1 b2 b3 b4 b5 bf bl d0 d1' d2' d3 d4 d5 d6 d7 d8 df dl
  have HV := HV2
  clear HV2
  obtain ⟨b0, b1, b2, b3, b4, b5, bf, bl⟩ := blk_cellsof HV.out.k
  obtain ⟨d0, d1', d2', d3, d4, d5, d6, d7, d8, df, dl⟩ := cm_cells HV.out.c
  obtain ⟨t0, t1, t2, t3, t4, t5, t6, tf, tl⟩ := td_cells HV.out.t
  go_upto_region 12 with fail
  generalize hW : World.alloc w2 _ = W3
  have hW' : w2.alloc (.cells (coRow ⟨c.id, c.qty, c.peak, c.mem, c.side, c.typ, c.price⟩) tCo) = W3 := hW
  have ho3 : Only Nil w2 W3 := by rw [← hW']; exact (Only.refl _ _).alloc _
  have HO : Hid (W3.heap[w2.heap.size]? = some (.cells (coRow ⟨c.id, c.qty, c.peak, c.mem, c.side, c.typ, c.price⟩) tCo (0, 0))) := Lib.hid (by rw [← hW']; exact blk_new _ _)
  have HV3 := Lib.hid (HV.out.nil ho3)
  have HOn := Lib.hid HV.out.only.size
  clear hW hW' ho3 HV b0 b1 b2 b3 b4 b5 bf bl d0 d1' d2' d3 d4 d5 d6 d7 d8 df dl t0 t1 t2 t3 t4 t5 t6 tf tl
  have HV := HV3
  clear HV3
  generalize w2.heap.size = O at *
  obtain ⟨b0, b1, b2, b3, b4, b5, bf, bl⟩ := blk_cellsof HV.out.k
  obtain ⟨d0, d1', d2', d3, d4, d5, d6, d7, d8, df, dl⟩ := cm_cells HV.out.c
  go_wp2_with fail
  refine (HFi.out _ HV.out.only).mono ?_
  rintro e w4 ⟨rfl, ho⟩
  have HVf := Lib.hid (HV.out.nil ho)
  have HOf := Lib.hid (ho.blk HO.out (fun q => q))
  have HZ1 := Lib.hid (blk_new w4 (.cells zR.row tR))
  clear ho HV HO HFi b0 b1 b2 b3 b4 b5 bf bl d0 d1' d2' d3 d4 d5 d6 d7 d8 df dl
  unfold findRV
  simp only
  go_upto_region 14 with (refine wpList_store_row rfl tR (.tmp 10) (.tmp 66) rfl _ rfl m.row zR.row rfl _ HZ1.out infoRs rfl (one_row _) ?_)
  generalize hW : World.setRow (World.alloc w4 _) _ _ = W5
  have hW' : w4.alloc (.cells m.row tR) = W5 := by rw [← hW]; exact (setRow_alloc _ _ _ _).symm
  have ho5 : Only Nil w4 W5 := by rw [← hW']; exact (Only.refl _ _).alloc _
  have HM : Hid (W5.heap[w4.heap.size]? = some (.cells m.row tR (0, 0))) := Lib.hid (by rw [← hW']; exact blk_new _ _)
  have HV := Lib.hid (HVf.out.nil ho5)
  have HO := Lib.hid (ho5.blk HOf.out (fun q => q))
  clear hW hW' ho5 HVf HOf HZ1
  generalize w4.heap.size = M at *
  obtain ⟨d0, d1', d2', d3, d4, d5, d6, d7, d8, df, dl⟩ := cm_cells HV.out.c
  obtain ⟨t0, t1, t2, t3, t4, t5, t6, tf, tl⟩ := td_cells HV.out.t
  obtain ⟨y0, y1, y2, y3, y4, y5, y6, yf, yl⟩ := rs_cellsR HM.out
  have HT := Lib.hid (fun W q1 q2 q3 => tellR_any a [] (evCancel m.id (m.vis + m.hid) 1) (.slice B1 m1 d1) (.slice B2 m2 d2) (.slice none 0 0) W q1 q2 q3 (by simp) HQ.out)
  go_upto_region 17 with fail
  clear d0 d1' d2' d3 d4 d5 d6 d7 d8 df dl hkb hk3b
  go_wp2_with fail
  refine (HT.out _ HV.out.lb HV.out.ls HV.out.le).mono ?_
  rintro e w5 ⟨x1', x2', x3', rfl, hx1, hx2, hx3, ho⟩
  obtain ⟨Y1, p1, f1, rfl⟩ := hx1.isSl
  obtain ⟨Y2, p2, f2, rfl⟩ := hx2.isSl
  obtain ⟨Y3, p3, f3, rfl⟩ := hx3.isSl
  have HVa := Lib.hid (HV.out.nil ho)
  have HOa := Lib.hid (ho.blk HO.out (fun q => q))
  have HVb := Lib.hid (HVa.out.setT hx1 hx2 hx3)
  have HMa := Lib.hid (ho.blk HM.out (fun q => q))
  clear ho HV HO HM HT hx1 hx2 hx3 t0 t1 t2 t3 t4 t5 t6 tf tl y0 y1 y2 y3 y4 y5 y6 yf yl hwr
  have hlen : (sideR (tell (a, []) (evCancel m.id (m.vis + m.hid) 1)).1 s).length ≤ 90000 := by
    show (sideR a s).length ≤ 90000
    unfold sideR
    split
    · exact HN1.out
    · split
      · exact HN2.out
      · simp
  generalize tell (a, []) (evCancel m.id (m.vis + m.hid) 1) = tq at *
  obtain ⟨bq, lq⟩ := tq
  simp only at HVb HE hlen
  go_upto_region 18 with (refine wpList_store_row rfl tTd (.tmp 6) (.tmp 82) rfl _ rfl (tdRow bq (.slice Y1 p1 f1) (.slice Y2 p2 f2) (.slice Y3 p3 f3)) _ rfl _ HVa.out.t infoTd rfl (one_td _ ⟨_, _, _, rfl⟩ ⟨_, _, _, rfl⟩ ⟨_, _, _, rfl⟩) ?_)
  generalize hW : World.setRow _ _ _ = W6
  have hW' : w5.setRow T (tdRow bq (.slice Y1 p1 f1) (.slice Y2 p2 f2) (.slice Y3 p3 f3)) = W6 := hW
  rw [hW'] at HVb
  have HO6 : Hid (W6.heap[O]? = some (.cells (coRow ⟨c.id, c.qty, c.peak, c.mem, c.side, c.typ, c.price⟩) tCo (0, 0))) := Lib.hid (by rw [← hW']; exact blk_off HOa.out HVa.out.t (by decide) _)
  have HM6 : Hid (W6.heap[M]? = some (.cells m.row tR (0, 0))) := Lib.hid (by rw [← hW']; exact blk_off HMa.out HVa.out.t (by decide) _)
  clear hW hW' HVa HOa HMa
  obtain ⟨vs, hvs, hve, hcs⟩ := side_far HVb.out.lb HVb.out.ls HSd.out
  clear hve
  have HWo := Lib.hid (fun X (hx : Only Nil W6 X) => without_any vs (sideR bq s) m.id X (hvs.nil hx) (by omega))
  have HWs := Lib.hid (fun (vl : Value) X (hx : Only Nil W6 X) (hvl : LR X vl (without (sideR bq s) m.id)) => with_set HSd.out (HVb.out.lb.nil hx) (HVb.out.ls.nil hx) hvl)
  have HCs := Lib.hid hcs
  obtain ⟨As, ns, cs', rfl⟩ := hvs.isSl
  clear hcs hvs hlen
  simp only [Act.put, List.setIfInBounds_toArray, List.set_cons_zero, List.set_cons_succ]
  go_cut [6] from 14 to 138 (fun v6 wd => v6 = .pointer (some ⟨T, 0, none⟩) ∧ Hid (∃ x y, IsSl x ∧ IsSl y ∧ DoW w T a (.slice A1 a.buys.length c1) (.slice A2 a.sells.length c2) c (bq.set s (without (sideR bq s) m.id)) lq x y (.slice Y3 p3 f3) wd) ∧ Hid (wd.heap[O]? = some (.cells (coRow ⟨c.id, c.qty, c.peak, c.mem, c.side, c.typ, c.price⟩) tCo (0, 0))) ∧ Hid (wd.heap[M]? = some (.cells m.row tR (0, 0))))
  case first =>
    have HSof := Lib.hid (fun X (hx : Only Nil W6 X) => And.intro (td_cells (hx.blk HVb.out.t (fun q => q))) (rs_cellsR (hx.blk HM6.out (fun q => q))))
    refine wp_region_Z (fun w' => (w'.cell? ⟨T, 0, none⟩ = some (.int .i64 bq.cap) ∧ w'.cell? ⟨T, 1, none⟩ = some (.int .i64 bq.meet) ∧ w'.cell? ⟨T, 2, none⟩ = some (.slice Y1 p1 f1) ∧ w'.cell? ⟨T, 3, none⟩ = some (.slice Y2 p2 f2) ∧ w'.cell? ⟨T, 4, none⟩ = some (.int .u64 bq.high) ∧ w'.cell? ⟨T, 5, none⟩ = some (.int .u64 bq.seq) ∧ w'.cell? ⟨T, 6, none⟩ = some (.slice Y3 p3 f3) ∧ (∀ k, w'.frozen? ⟨T, k, none⟩ = false) ∧ T < w'.heap.size) ∧ (w'.cell? ⟨M, 0, none⟩ = some (.int .u64 m.id) ∧ w'.cell? ⟨M, 1, none⟩ = some (.int .u32 m.mem) ∧ w'.cell? ⟨M, 2, none⟩ = some (.int .i64 m.typ) ∧ w'.cell? ⟨M, 3, none⟩ = some (.int .i64 m.price) ∧ w'.cell? ⟨M, 4, none⟩ = some (.int .u64 m.vis) ∧ w'.cell? ⟨M, 5, none⟩ = some (.int .u64 m.hid) ∧ w'.cell? ⟨M, 6, none⟩ = some (.int .u64 m.peak) ∧ (∀ k, w'.frozen? ⟨M, k, none⟩ = false) ∧ M < w'.heap.size)) 12 (by kernel_rfl) ?_
    refine' anyZ_take (i := 0) (oi := _) (v := _) rfl (by decide) (by kernel_rfl) (by kernel_rfl) (by kernel_rfl) (by kernel_rfl) (fun _ _ _ h => h) (HSof.out _ (Only.refl _ _).drew) (Or.inl ⟨by rfl, ?hy0⟩) ?rest0
    case hy0 =>
      intro w hSw
      (try dsimp only at hSw)
      go_simp
      try with_reducible rfl
    simp only [Act.put, List.setIfInBounds_toArray, List.set_cons_zero, List.set_cons_succ]
    refine' anyZ_take (i := 1) (oi := _) (v := _) rfl (by decide) (by kernel_rfl) (by kernel_rfl) (by kernel_rfl) (by kernel_rfl) (fun _ _ _ h => h) (HSof.out _ (Only.refl _ _).drew) (Or.inl ⟨by rfl, ?hy1⟩) ?rest1
    case hy1 =>
      intro w hSw
      (try dsimp only at hSw)
      go_simp
      try with_reducible rfl
    simp only [Act.put, List.setIfInBounds_toArray, List.set_cons_zero, List.set_cons_succ]
    refine' anyZ_take (i := 2) (oi := _) (v := _) rfl (by decide) (by kernel_rfl) (by kernel_rfl) (by kernel_rfl) (by kernel_rfl) (fun _ _ _ h => h) (HSof.out _ (Only.refl _ _).drew) (Or.inl ⟨by rfl, ?hy2⟩) ?rest2
    case hy2 =>
      intro w hSw
      (try dsimp only at hSw)
      go_simp
      try with_reducible rfl
    simp only [Act.put, List.setIfInBounds_toArray, List.set_cons_zero, List.set_cons_succ]
    refine' anyZ_take (i := 3) (oi := _) (v := _) rfl (by decide) (by kernel_rfl) (by kernel_rfl) (by kernel_rfl) (by kernel_rfl) (fun _ _ _ h => h) (HSof.out _ (Only.refl _ _).drew) (Or.inl ⟨by rfl, ?hy3⟩) ?rest3
    case hy3 =>
      intro w hSw
      (try dsimp only at hSw)
      go_simp
      try with_reducible rfl
    simp only [Act.put, List.setIfInBounds_toArray, List.set_cons_zero, List.set_cons_succ]
    refine' anyZ_take (i := 4) (oi := _) (v := _) rfl (by decide) (by kernel_rfl) (by kernel_rfl) (by kernel_rfl) (by kernel_rfl) (fun _ _ _ h => h) (HSof.out _ (Only.refl _ _).drew) (Or.inl ⟨by rfl, ?hy4⟩) ?rest4
    case hy4 =>
      intro w hSw
      (try dsimp only at hSw)
      go_simp
      try with_reducible rfl
    simp only [Act.put, List.setIfInBounds_toArray, List.set_cons_zero, List.set_cons_succ]
    refine' anyZ_take (i := 5) (oi := _) (v := _) rfl (by decide) (by kernel_rfl) (by kernel_rfl) (by kernel_rfl) (by kernel_rfl) (fun _ _ _ h => h) (HSof.out _ (Only.refl _ _).drew) (Or.inl ⟨by rfl, ?hy5⟩) ?rest5
    case hy5 =>
      intro w hSw
      (try dsimp only at hSw)
      go_simp
      try with_reducible rfl
    simp only [Act.put, List.setIfInBounds_toArray, List.set_cons_zero, List.set_cons_succ]
    refine' anyZ_take (i := 7) (oi := _) (v := _) rfl (by decide) (by kernel_rfl) (by kernel_rfl) (by kernel_rfl) (by kernel_rfl) (fun _ _ _ h => h) (HSof.out _ (Only.refl _ _).drew) (Or.inl ⟨by rfl, ?hy7⟩) ?rest7
    case hy7 =>
      intro w hSw
      (try dsimp only at hSw)
      go_simp
      try with_reducible rfl
    simp only [Act.put, List.setIfInBounds_toArray, List.set_cons_zero, List.set_cons_succ]
    refine' anyZ_take (i := 8) (oi := _) (v := _) rfl (by decide) (by kernel_rfl) (by kernel_rfl) (by kernel_rfl) (by kernel_rfl) (fun _ _ _ h => h) (HSof.out _ (Only.refl _ _).drew) (Or.inl ⟨by rfl, ?hy8⟩) ?rest8
    case hy8 =>
      intro w hSw
      (try dsimp only at hSw)
      go_simp
      try with_reducible rfl
    simp only [Act.put, List.setIfInBounds_toArray, List.set_cons_zero, List.set_cons_succ]
    refine anyZ_one (i := 6) (by kernel_rfl) rfl (fun K hK => ?_)
    go_simp
    go_at_call 29
    refine (HCs.out _).mono ?_
    rintro e wg1 ⟨rfl, ho1⟩
    have HO1 := Lib.hid ((Only.refl Nil W6).drew.trans ho1 (fun _ _ q => q))
    refine hK.out _ _ (fun _ => HSof.out _ HO1.out) (fun _ => ?_)
    clear hK K ho1
    try simp only [Act.put, List.setIfInBounds_toArray, List.set_cons_zero, List.set_cons_succ]
    refine anyZ_one (i := 9) (by kernel_rfl) rfl (fun K hK => ?_)
    go_simp
    go_at_call 28
    refine (HWo.out _ HO1.out).mono ?_
    rintro e wg2 ⟨⟨vl, rfl, hlr, hfr⟩, ho2⟩
    have HO2 := Lib.hid (HO1.out.trans ho2 (fun _ _ q => q))
    have HLl := Lib.hid hlr
    obtain ⟨Al, nl, cl, rfl⟩ := hlr.isSl
    refine hK.out _ _ (fun _ => HSof.out _ HO2.out) (fun _ => ?_)
    clear hK K ho2 hlr hfr
    try simp only [Act.put, List.setIfInBounds_toArray, List.set_cons_zero, List.set_cons_succ]
    refine anyZ_one (i := 10) (by kernel_rfl) rfl (fun K hK => ?_)
    go_simp
    go_at_call 27
    obtain ⟨x, y, ix, iy, hwc⟩ := HWs.out _ _ HO2.out HLl.out
    obtain ⟨Ax, nx, cx, rfl⟩ := ix
    obtain ⟨Ay, ny, cy, rfl⟩ := iy
    refine (hwc _ (Only.refl _ _)).mono ?_
    rintro e wh ⟨rfl, hx, hy, hoh⟩
    have HV8 := Lib.hid ((HVb.out.nil HO2.out).nil hoh)
    have HX := Lib.hid hx
    have HY := Lib.hid hy
    have HO3 := Lib.hid (HO2.out.trans hoh (fun _ _ q => q))
    have HOh := Lib.hid (HO3.out.blk HO6.out (fun q => q))
    have HMh := Lib.hid (HO3.out.blk HM6.out (fun q => q))
    refine hK.out _ _ (fun _ => HSof.out _ HO3.out) (fun _ => ?_)
    clear hK K hoh hx hy hwc
    unfold bkRow
    try simp only [Act.put, List.setIfInBounds_toArray, List.set_cons_zero, List.set_cons_succ]
    obtain ⟨z0, z1, z2, z3, z4, z5, z6, zf, zl⟩ := td_cells HV8.out.t
    refine anyZ_one (i := 11) (by kernel_rfl) rfl (fun K hK => ?_)
    go_simp
    refine hK.out _ _ (fun _ => HSof.out _ HO3.out) (fun _ => ?_)
    clear hK K
    try simp only [Act.put, List.setIfInBounds_toArray, List.set_cons_zero, List.set_cons_succ]
    refine anyZ_one (i := 12) (by kernel_rfl) rfl (fun K hK => ?_)
    go_simp
    refine hK.out _ _ (fun q => absurd rfl q) (fun _ => ?_)
    clear hK K
    try simp only [Act.put, List.setIfInBounds_toArray, List.set_cons_zero, List.set_cons_succ]
    refine anyZ_done (by kernel_rfl) ?_ _
    go_wp2
    go_meet
    case rel =>
      have ho6 := set6_only wh T (.int .i64 (bq.set s (without (sideR bq s) m.id)).cap) (.int .i64 (bq.set s (without (sideR bq s) m.id)).meet) (.slice Ax nx cx) (.slice Ay ny cy) (.int .u64 (bq.set s (without (sideR bq s) m.id)).high) (.int .u64 (bq.set s (without (sideR bq s) m.id)).seq)
      exact ⟨rfl, Lib.hid ⟨_, _, ⟨_, _, _, rfl⟩, ⟨_, _, _, rfl⟩, HV8.out.setB HX.out HY.out⟩, Lib.hid (ho6.blk HOh.out (fun q => blk_ne HOh.out HV8.out.t (by decide) q)), Lib.hid (ho6.blk HMh.out (fun q => blk_ne HMh.out HV8.out.t (by decide) q))⟩
  case rest =>
    obtain ⟨rfl, HCt, HO, HM⟩ := hcut
    obtain ⟨x, y, ix, iy, hst⟩ := HCt.out
    obtain ⟨Ax, nx, cx, rfl⟩ := ix
    obtain ⟨Ay, ny, cy, rfl⟩ := iy
    have HV := Lib.hid hst
    clear HCt hst HVb HO6 HM6 HWo HWs HCs
    generalize bq.set s (without (sideR bq s) m.id) = bz at *
    obtain ⟨d0, d1', d2', d3, d4, d5, d6, d7, d8, df, dl⟩ := cm_cells HV.out.c
    obtain ⟨t0, t1, t2, t3, t4, t5, t6, tf, tl⟩ := td_cells HV.out.t
    go_upto_region 20 with fail
    obtain ⟨r0, r1, r2, r3, r4, r5, rf, rl⟩ := blk_cellsof (b := zB) HV.out.r
    have hTr' : w.heap.size + 1 + 1 ≠ T := fun q => hTr q.symm
    obtain ⟨hr1, hr2⟩ := HV.out.ret hTr
    have HR1 := Lib.hid hr1
    have HR2 := Lib.hid hr2
    clear hr1 hr2
    go_region
    all_goals
      go_wp2
      refine bodyPost_ret (results_bk rfl _ _ (w.heap.size + 1 + 1) _ rfl _ rfl (blk_drew HR1.out) rfl) rfl ?_
      rw [HE.out]
      exact HR2.out.drew
end Ck
end Go.Proofs.Ytcnkbhgdcfckoaa
