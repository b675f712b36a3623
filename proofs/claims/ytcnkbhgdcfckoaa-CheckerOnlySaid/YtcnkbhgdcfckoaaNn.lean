/- The walk of the document's Do, a New. -/
import Derived.Test.YtcnkbhgdcfckoaaNm
set_option linter.unusedVariables false
set_option linter.unusedSimpArgs false
namespace Go.Proofs.Ytcnkbhgdcfckoaa
open Go.RowKit
namespace Ck
theorem amounts_qty {c : Cm} {k : Int} (h : amounts c k = 0) : 1 ≤ c.qty ∧ c.qty ≤ 4294967295 := by
  unfold amounts at h
  by_cases h1 : c.price < 0 ∨ 262144 ≤ c.price ∨ (k = 2 ∧ c.price ≠ 0)
  · rw [if_pos h1] at h; omega
  · rw [if_neg h1] at h
    by_cases h2 : c.qty < 1 ∨ 4294967295 < c.qty
    · rw [if_pos h2] at h; omega
    · omega
theorem check_zero {c : Cm} (h : checkR c = 0) (hk : c.kind ≠ 2) : 1 ≤ c.qty ∧ c.qty ≤ 4294967295 := by
  unfold checkR at h
  rw [if_neg hk] at h
  by_cases h3 : c.kind = 3
  · rw [if_pos h3] at h; exact amounts_qty h
  · rw [if_neg h3] at h
    by_cases h1 : c.kind = 1
    · rw [if_pos h1] at h
      by_cases q1 : c.side ≠ 1 ∧ c.side ≠ 2
      · rw [if_pos q1] at h; omega
      · rw [if_neg q1] at h
        by_cases q2 : c.typ < 1 ∨ 5 < c.typ
        · rw [if_pos q2] at h; omega
        · rw [if_neg q2] at h; exact amounts_qty h
    · rw [if_neg h1] at h; omega
/-- What is not refused. -/
theorem accepted {b : Bk} {c : Cm} (h : refusedR b c = 0) : (c.kind ≠ 1 → ∃ m s, findR b c.target = some (m, s)) ∧ (c.kind ≠ 2 → 1 ≤ c.qty ∧ c.qty ≤ 4294967295) ∧ (1 ≤ c.kind ∧ c.kind ≤ 3) ∧ (c.kind ≠ 2 → checkR c = 0) := by
  unfold refusedR at h
  by_cases h0 : c.kind < 1 ∨ 3 < c.kind
  · rw [if_pos h0] at h; omega
  rw [if_neg h0] at h
  by_cases h1 : c.kind ≠ 1 ∧ (findR b c.target).isNone = true
  · rw [if_pos h1] at h; omega
  rw [if_neg h1] at h
  refine ⟨fun q => ?_, fun q => ?_, by omega, fun q => ?_⟩
  · cases hf : findR b c.target with
    | none => exact absurd ⟨q, by rw [hf]; rfl⟩ h1
    | some v => exact ⟨v.1, v.2, rfl⟩
  · by_cases h2 : checkR c ≠ 0 ∨ c.kind = 2
    · rw [if_pos h2] at h; exact check_zero h q
    · exact check_zero (Classical.byContradiction fun g => h2 (.inl g)) q
  · by_cases h2 : checkR c ≠ 0 ∨ c.kind = 2
    · rw [if_pos h2] at h; exact h
    · exact Classical.byContradiction fun g => h2 (.inl g)
theorem new_side {b : Bk} {c : Cm} (h : refusedR b c = 0) (hk : c.kind = 1) : c.side = 1 ∨ c.side = 2 := check_side ((accepted h).2.2.2 (by omega)) hk
theorem OkB.fields {b b' : Bk} (h : OkB b) (h1 : b'.buys = b.buys) (h2 : b'.sells = b.sells) : OkB b' := ⟨by rw [h1]; exact h.buys, by rw [h2]; exact h.sells⟩
theorem iv_ack {b : Bk} {l : List Ev} {o : Co} (hb : OkB b) (hq : 0 ≤ b.seq ∧ b.seq < 18446744073709551616) (hm : b.meet = 0 ∨ b.meet = 1 ∨ b.meet = 2 ∨ b.meet = 3) (h1 : b.buys.length ≤ 100000) (h2 : b.sells.length ≤ 100000) (hl : l.length ≤ 5) (hs : o.side = 1 ∨ o.side = 2) (ho : 0 ≤ o.left ∧ o.left ≤ 4294967295) :
    Iv iv0 100000 100000 ({ (tell (b, l) (evAcked o)).1 with high := o.id }, (tell (b, l) (evAcked o)).2) o :=
  iv_begin (b := { (tell (b, l) (evAcked o)).1 with high := o.id }) (hb.fields rfl rfl) (wr_range _) hm h1 h2 hs ho _ (by show (l ++ [_]).length ≤ 10; simp; omega)
set_option maxHeartbeats 3200000 in
set_option maxRecDepth 100000 in
theorem do_new (a : Bk) (x1 x2 : Value) (c : Cm) (w : World) (h1 : LR w x1 a.buys) (h2 : LR w x2 a.sells) (hw : c.wf) (hn1 : a.buys.length ≤ 90000) (hn2 : a.sells.length ≤ 90000) (hok : OkB a) (hq : 0 ≤ a.seq ∧ a.seq < 18446744073709551616) (hm : a.meet = 0 ∨ a.meet = 1 ∨ a.meet = 2 ∨ a.meet = 3) (hr : refusedR a c = 0) (hk : c.kind = 1) :
    Calls Try.prog 9 #[.agg (bkRow a x1 x2), .agg (cmRow c)] w (DoPost (doR a c) w) := by
  have HCp := Lib.hid (fun W (ho : Only Nil w W) => copy_any a x1 x2 W (h1.nil ho) (h2.nil ho) (by omega) (by omega))
  have HRf := Lib.hid (fun W (ho : Only Nil w W) => refusedR_any a x1 x2 c W (h1.nil ho) (h2.nil ho) hw (by omega) (by omega))
  have hqr := (accepted hr).2.1 (by omega)
  have hsd := (new_side hr hk)
  rw [hr] at HRf
  obtain ⟨o, hoe⟩ : ∃ o : Co, o = ⟨c.id, c.qty, c.peak, c.mem, c.side, c.typ, c.price⟩ := ⟨_, rfl⟩
  have HE : Hid (doR a c = comesR ({ (tell (a, []) (evAcked o)).1 with high := o.id }, (tell (a, []) (evAcked o)).2) o) := Lib.hid (by unfold doR; rw [if_neg (by omega), if_pos hk, ← hoe]; rfl)
  have hkb : (c.kind != 1) = false := by simp [hk]
  have HIv := Lib.hid (iv_ack (l := []) (o := o) hok hq hm (by omega) (by omega) (by simp) (by rw [hoe]; exact hsd) (by rw [hoe]; exact ⟨by show 0 ≤ c.qty; omega, hqr.2⟩))
  have HOe := Lib.hid hoe
  clear hoe
  clear hr hm hok hw hqr hsd hk
  have HL1 := Lib.hid h1
  have HL2 := Lib.hid h2
  have HQ := Lib.hid hq
  obtain ⟨A1, c1, rfl, q1, q2⟩ := h1.sl
  obtain ⟨A2, c2, rfl, q3, q4⟩ := h2.sl
  clear q1 q2 q3 q4 h1 h2 hn1 hn2 hq
  obtain ⟨hb1, hb2, hb3, hb4⟩ := do_begin (a := a) (x1 := (.slice A1 a.buys.length c1)) (x2 := (.slice A2 a.sells.length c2)) (c := c) (w := w)
  have HK0 := Lib.hid hb1
  have HC0 := Lib.hid hb2
  have HR0 := Lib.hid hb3
  have HO0 := Lib.hid hb4
  clear hb1 hb2 hb3 hb4
  go_enter Try.func9, Try.ntmps9
  go_upto_region 1 with fail
  generalize hW : World.alloc (World.alloc (World.alloc w _) _) _ = W0
  have hW' : (((w.alloc (.cells (bkRow a (.slice A1 a.buys.length c1) (.slice A2 a.sells.length c2)) tBk)).alloc (.cells (cmRow c) tCm)).alloc (.cells bk0R tBk)) = W0 := hW
  rw [hW'] at HK0 HC0 HR0 HO0
  clear hW hW'
  obtain ⟨b0, b1, b2, b3, b4, b5, bf, bl⟩ := blk_cellsof HK0.out
  go_wp2_with fail
  refine (HCp.out _ HO0.out).mono ?_
  rintro e w1 ⟨⟨v1, v2, rfl, hv1, hv2⟩, ho⟩
  obtain ⟨B1, m1, d1, rfl⟩ := hv1.isSl
  obtain ⟨B2, m2, d2, rfl⟩ := hv2.isSl
  have HK1 := Lib.hid (ho.blk HK0.out (fun q => q))
  have HC1 := Lib.hid (ho.blk HC0.out (fun q => q))
  have HR1 := Lib.hid (ho.blk HR0.out (fun q => q))
  have HO1 := Lib.hid (HO0.out.trans (S := Nil) ho (fun _ _ q => q))
  have Hv1 := Lib.hid hv1
  have Hv2 := Lib.hid hv2
  clear ho HK0 HC0 HR0 HO0 hv1 hv2 HCp b0 b1 b2 b3 b4 b5 bf bl
  have hbld := build_td a B1 m1 d1 B2 m2 d2
  unfold bkRow
  go_upto_region 2 with fail
  generalize hW : World.alloc w1 _ = W2
  have hW' : w1.alloc (.cells (tdRow a (.slice B1 m1 d1) (.slice B2 m2 d2) (.slice none 0 0)) tTd) = W2 := hW
  have ho2 : Only Nil w1 W2 := by rw [← hW']; exact (Only.refl _ _).alloc _
  have HT0 : Hid (W2.heap[w1.heap.size]? = some (.cells (tdRow a (.slice B1 m1 d1) (.slice B2 m2 d2) (.slice none 0 0)) tTd (0, 0))) := Lib.hid (by rw [← hW']; exact blk_new _ _)
  have HTn := Lib.hid HO1.out.size
  have HV : Hid (DoW w w1.heap.size a (.slice A1 a.buys.length c1) (.slice A2 a.sells.length c2) c a [] (.slice B1 m1 d1) (.slice B2 m2 d2) (.slice none 0 0) W2) := Lib.hid ⟨ho2.blk HK1.out (fun q => q), ho2.blk HC1.out (fun q => q), ho2.blk HR1.out (fun q => q), HT0.out,
    (HL1.out.nil HO1.out).nil ho2, (HL2.out.nil HO1.out).nil ho2, Hv1.out.nil ho2, Hv2.out.nil ho2, Lst.empty none 0 (by omega), HO1.out.trans ho2 (fun _ _ q => q), HTn.out⟩
  have hTr : w1.heap.size ≠ w.heap.size + 1 + 1 := by have := blk_lt HR1.out; omega
  clear hW hW' ho2 HT0 HTn HK1 HC1 HR1 HO1 Hv1 Hv2 HL1 HL2 hbld
  generalize w1.heap.size = T at *
  obtain ⟨b0, b1, b2, b3, b4, b5, bf, bl⟩ := blk_cellsof HV.out.k
  obtain ⟨d0, d1', d2', d3, d4, d5, d6, d7, d8, df, dl⟩ := cm_cells HV.out.c
  go_wp2_with fail
  refine (HRf.out _ HV.out.only).mono ?_
  rintro e w2 ⟨rfl, ho⟩
  have HV2 := Lib.hid (HV.out.nil ho)
  clear ho HV HRf b0 b1 b2 b3 b4 b5 bf bl d0 d1' d2' d3 d4 d5 d6 d7 d8 df dl
  have HV := HV2
  clear HV2
  obtain ⟨b0, b1, b2, b3, b4, b5, bf, bl⟩ := blk_cellsof HV.out.k
  obtain ⟨d0, d1', d2', d3, d4, d5, d6, d7, d8, df, dl⟩ := cm_cells HV.out.c
  obtain ⟨t0, t1, t2, t3, t4, t5, t6, tf, tl⟩ := td_cells HV.out.t
  go_upto_region 12 with fail
  generalize hW : World.alloc w2 _ = W3
  have hW' : w2.alloc (.cells (coRow ⟨c.id, c.qty, c.peak, c.mem, c.side, c.typ, c.price⟩) tCo) = W3 := hW
  have ho3 : Only Nil w2 W3 := by rw [← hW']; exact (Only.refl _ _).alloc _
  have HO : Hid (W3.heap[w2.heap.size]? = some (.cells (coRow ⟨c.id, c.qty, c.peak, c.mem, c.side, c.typ, c.price⟩) tCo (0, 0))) := Lib.hid (by rw [← hW']; exact blk_new _ _)
  have HV3 := Lib.hid (HV.out.nil ho3)
  clear hW hW' ho3 HV b0 b1 b2 b3 b4 b5 bf bl d0 d1' d2' d3 d4 d5 d6 d7 d8 df dl t0 t1 t2 t3 t4 t5 t6 tf tl
  have HV := HV3
  clear HV3
  generalize w2.heap.size = O at *
  obtain ⟨d0, d1', d2', d3, d4, d5, d6, d7, d8, df, dl⟩ := cm_cells HV.out.c
  go_upto_region 22 with fail
  clear d0 d1' d2' d3 d4 d5 d6 d7 d8 df dl hkb
  rw [← HOe.out] at HO
  have HT := Lib.hid (fun W q1 q2 q3 => tellR_any a [] (evAcked o) (.slice B1 m1 d1) (.slice B2 m2 d2) (.slice none 0 0) W q1 q2 q3 (by simp) HQ.out)
  clear HOe
  obtain ⟨t0, t1, t2, t3, t4, t5, t6, tf, tl⟩ := td_cells HV.out.t
  obtain ⟨o0, o1, o2, o3, o4, o5, o6, of, ol⟩ := co_cells HO.out
  go_wp2_with fail
  refine (HT.out _ HV.out.lb HV.out.ls HV.out.le).mono ?_
  rintro e w5 ⟨x1', x2', x3', rfl, hx1, hx2, hx3, ho⟩
  obtain ⟨Y1, p1, f1, rfl⟩ := hx1.isSl
  obtain ⟨Y2, p2, f2, rfl⟩ := hx2.isSl
  obtain ⟨Y3, p3, f3, rfl⟩ := hx3.isSl
  have HVa := Lib.hid (HV.out.nil ho)
  have HOa := Lib.hid (ho.blk HO.out (fun q => q))
  have HVb := Lib.hid (HVa.out.setT hx1 hx2 hx3)
  clear ho HV HO HT hx1 hx2 hx3 t0 t1 t2 t3 t4 t5 t6 tf tl o0 o1 o2 o3 o4 o5 o6 of ol
  generalize tell (a, []) (evAcked o) = tq at *
  obtain ⟨bq, lq⟩ := tq
  simp only at HVb HE HIv
  go_upto_region 23 with (refine wpList_store_row rfl tTd (.tmp 6) (.tmp 126) rfl _ rfl (tdRow bq (.slice Y1 p1 f1) (.slice Y2 p2 f2) (.slice Y3 p3 f3)) _ rfl _ HVa.out.t infoTd rfl (one_td _ ⟨_, _, _, rfl⟩ ⟨_, _, _, rfl⟩ ⟨_, _, _, rfl⟩) ?_)
  generalize hW : World.setRow _ _ _ = W6
  have hW' : w5.setRow T (tdRow bq (.slice Y1 p1 f1) (.slice Y2 p2 f2) (.slice Y3 p3 f3)) = W6 := hW
  rw [hW'] at HVb
  have HO6 : Hid (W6.heap[O]? = some (.cells (coRow o) tCo (0, 0))) := Lib.hid (by rw [← hW']; exact blk_off HOa.out HVa.out.t (by decide) _)
  clear hW hW' HVa HOa
  obtain ⟨t0, t1, t2, t3, t4, t5, t6, tf, tl⟩ := td_cells HVb.out.t
  obtain ⟨o0, o1, o2, o3, o4, o5, o6, of, ol⟩ := co_cells HO6.out
  have hne1 : T ≠ O := blk_ne HVb.out.t HO6.out (by decide)
  have hne2 : O ≠ T := fun q => hne1 q.symm
  go_upto_region 24 with fail
  generalize hW : World.setCell W6 _ _ = W7
  have hW' : W6.setCell ⟨T, 4, none⟩ (.int .u64 o.id) = W7 := hW
  have HV7 := HVb.out.setH o.id
  rw [hW'] at HV7
  have HV := Lib.hid HV7
  have HO : Hid (W7.heap[O]? = some (.cells (coRow o) tCo (0, 0))) := Lib.hid (by rw [← hW']; exact blk_far HO6.out hne2 _)
  clear hW hW' HV7 HVb HO6 hne1 hne2 t0 t1 t2 t3 t4 t5 t6 tf tl o0 o1 o2 o3 o4 o5 o6 of ol
  generalize ({ bq with high := o.id } : Bk) = br at *
  obtain ⟨t0, t1, t2, t3, t4, t5, t6, tf, tl⟩ := td_cells HV.out.t
  obtain ⟨o0, o1, o2, o3, o4, o5, o6, of, ol⟩ := co_cells HO.out
  have HCm := Lib.hid (fun W q1 q2 q3 => comesR_any br lq (.slice Y1 p1 f1) (.slice Y2 p2 f2) (.slice Y3 p3 f3) o W q1 q2 q3 HIv.out)
  go_wp2_with fail
  refine (HCm.out _ HV.out.lb HV.out.ls HV.out.le).mono ?_
  clear HCm
  rintro e w5 ⟨z1', z2', z3', rfl, hx1, hx2, hx3, ho⟩
  obtain ⟨Z1, g1, i1, rfl⟩ := hx1.isSl
  obtain ⟨Z2, g2, i2, rfl⟩ := hx2.isSl
  obtain ⟨Z3, g3, i3, rfl⟩ := hx3.isSl
  have HVa := Lib.hid (HV.out.nil ho)
  have HOa := Lib.hid (ho.blk HO.out (fun q => q))
  have HVb := Lib.hid (HVa.out.setT hx1 hx2 hx3)
  clear ho HV HO HOa hx1 hx2 hx3 t0 t1 t2 t3 t4 t5 t6 tf tl o0 o1 o2 o3 o4 o5 o6 of ol
  generalize comesR (br, lq) o = tq at *
  obtain ⟨bs, ls⟩ := tq
  simp only at HVb HE
  go_upto_region 25 with (refine wpList_store_row rfl tTd (.tmp 6) (.tmp 133) rfl _ rfl (tdRow bs (.slice Z1 g1 i1) (.slice Z2 g2 i2) (.slice Z3 g3 i3)) _ rfl _ HVa.out.t infoTd rfl (one_td _ ⟨_, _, _, rfl⟩ ⟨_, _, _, rfl⟩ ⟨_, _, _, rfl⟩) ?_)
  generalize hW : World.setRow _ _ _ = W6
  have hW' : w5.setRow T (tdRow bs (.slice Z1 g1 i1) (.slice Z2 g2 i2) (.slice Z3 g3 i3)) = W6 := hW
  rw [hW'] at HVb
  clear hW hW' HVa
  have HV := HVb
  clear HVb
  obtain ⟨t0, t1, t2, t3, t4, t5, t6, tf, tl⟩ := td_cells HV.out.t
  obtain ⟨r0, r1, r2, r3, r4, r5, rf, rl⟩ := blk_cellsof (b := zB) HV.out.r
  have hTr' : w.heap.size + 1 + 1 ≠ T := fun q => hTr q.symm
  obtain ⟨hr1, hr2⟩ := HV.out.ret hTr
  have HR1 := Lib.hid hr1
  have HR2 := Lib.hid hr2
  clear hr1 hr2
  go_region
  all_goals
    go_wp2
    refine bodyPost_ret (results_bk rfl _ _ (w.heap.size + 1 + 1) _ rfl _ rfl (blk_drew HR1.out) rfl) rfl ?_
    rw [HE.out]
    exact HR2.out.drew
end Ck
end Go.Proofs.Ytcnkbhgdcfckoaa
