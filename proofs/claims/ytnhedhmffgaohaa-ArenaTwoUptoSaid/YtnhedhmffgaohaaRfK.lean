/- The walks of the document's Pop and Sweep. -/
import Derived.Test.YtnhedhmffgaohaaRfJ
namespace Go.Proofs.Ytnhedhmffgaohaa
open Go.RowKit
namespace Rfw

/-- The head of a queue, as a walk reads it. -/
theorem RfRep.headq {w : World} {D q j : Nat} {r : Rf} {vp vd vq : Value} {rows : List Value} {T : List Nat} (h : RfRep w D r vp vd vq rows) (hL : r.queues[q]? = some (j :: T)) :
    ∃ gq cq ga ca, w.cell? ⟨D, 3, none⟩ = some (.slice (some ⟨gq, 0, none⟩) r.queues.length cq) ∧ w.cell? ⟨gq, q, none⟩ = some (.slice (some ⟨ga, 0, none⟩) (T.length + 1) ca) ∧ w.cell? ⟨ga, 0, none⟩ = some (.int .i64 (j : Int)) ∧
      gq < w.heap.size ∧ ga < w.heap.size ∧ D < w.heap.size ∧ q < r.queues.length := by
  obtain ⟨gq, cq, A, ca, hvq, hgq, _, _, hqc, _, _, hrow, _⟩ := h.qrow hL
  obtain ⟨ga, ca', e, hga, _, _⟩ := own_row hrow (by simp)
  injection e with e1 e2 e3
  subst e1
  subst e3
  refine ⟨gq, cq, ga, ca, by rw [← hvq]; exact h.base.2.2.2.1, by rw [hqc]; rfl, row_get hrow (by rfl), hgq, hga, h.base.2.2.2.2.2, (List.getElem?_eq_some_iff.1 hL).1⟩

/-! ### Pop -/
set_option maxHeartbeats 800000 in
set_option maxRecDepth 100000 in
theorem pop_none (D q : Nat) (r : Rf) (L : List Nat) (p : Rp) (w : World) (h : RfIs w D r p) (hw : r.wf) (hL : r.queues[q]? = some L) (h0 : rall r.places L = []) :
    Calls Try.prog 79 #[.pointer (some ⟨D, 0, none⟩), .int .i64 q] w fun e w' => e = .returned (.tuple #[.agg #[.int .u32 0, .int .u32 0], .bool false]) ∧ Only Nil w w' := by
  have hf := first_any D q r L p _ (h.nil ((Only.refl Nil w).alloc (.cells #[.int .u32 0, .int .u32 0] tH))) hw hL
  rw [h0] at hf
  simp only [List.head?_nil, hIx, hLf, Option.isSome_none] at hf
  have HF := Lib.hid hf
  clear h hf
  go_enter Try.func79, Try.ntmps79
  go_wp2_with fail
  refine HF.out.mono ?_
  rintro e w1 ⟨rfl, ho⟩
  have hbx := box_after' ho
  have hB0 := blk_cell hbx 0
  have hB1 := blk_cell hbx 1
  have hBf0 := blk_frozen hbx 0
  have hBf1 := blk_frozen hbx 1
  have hBlt := blk_lt hbx
  simp only [List.getElem?_toArray, List.getElem?_cons_zero, List.getElem?_cons_succ] at hB0 hB1
  have o1 : Only Nil w w1 := ((Only.refl Nil w).alloc _).trans ho (fun _ _ h => h)
  clear hbx ho
  go_wp2
  refine bodyPost_ret (v := .tuple #[.agg #[.int .u32 0, .int .u32 0], .bool false]) (by simp [results, Try.results79, go_sem, hB0, hB1, hBlt]) rfl ⟨rfl, ?_⟩
  exact ((o1.setCell (p := ⟨w.heap.size, 0, none⟩) (.inr (Nat.le_refl _)) _).setCell (p := ⟨w.heap.size, 1, none⟩) (.inr (Nat.le_refl _)) _).alloc _

set_option maxHeartbeats 3200000 in
set_option maxRecDepth 100000 in
theorem pop_some (D q i : Nat) (r : Rf) (x : Pl) (L1 L2 : List Nat) (p : Rp) (w : World) (h : RfIs w D r p) (hw : r.wf) (hL : r.queues[q]? = some (L1 ++ i :: L2)) (hnd : (L1 ++ i :: L2).Nodup) (hx : r.places[i]? = some x) (hd : x.dead = false)
    (hd1 : ∀ k ∈ L1, deadAt r.places k = true) (hdn : r.dropped.length + (L1 ++ i :: L2).length ≤ 65536) :
    Calls Try.prog 79 #[.pointer (some ⟨D, 0, none⟩), .int .i64 q] w fun e w' =>
      e = .returned (.tuple #[.agg #[.int .u32 i, .int .u32 x.life], .bool true]) ∧ RStep w D p ((r.swept q L1 (i :: L2)).out q i x (i :: L2)) w' := by
  have hf := first_any D q r _ p _ (h.nil ((Only.refl Nil w).alloc (.cells #[.int .u32 0, .int .u32 0] tH))) hw hL
  have hra : (rall r.places (L1 ++ i :: L2)).head? = some ⟨i, x.life⟩ := by
    have h1 : rall r.places L1 = [] := by
      unfold rall
      refine List.filterMap_eq_nil_iff.2 fun k hk => ?_
      have := hd1 k hk
      unfold deadAt at this
      unfold rh
      cases hk2 : r.places[k]? with
      | none => rfl
      | some y => rw [hk2] at this; simp only at this ⊢; rw [if_pos this]
    have h2 : rh r.places i = some ⟨i, x.life⟩ := by unfold rh; rw [hx]; simp [hd]
    show (List.filterMap (rh r.places) (L1 ++ i :: L2)).head? = _
    rw [List.filterMap_append, List.filterMap_cons, h2]
    have h3 : List.filterMap (rh r.places) L1 = [] := h1
    rw [h3]; rfl
  rw [hra] at hf
  simp only [hIx, hLf, Option.isSome_some] at hf
  have HF := Lib.hid hf
  have hlen := hw.len
  have hqn := hw.qn
  have hqm := hw.ql _ (List.mem_of_getElem? hL)
  have hqlt := (List.getElem?_eq_some_iff.1 hL).1
  have hi32 : i < 65536 := by have := hqm.2 i (by simp); omega
  have H := Lib.hid h
  have HL := Lib.hid hL
  have Hnd := Lib.hid hnd
  have Hx := Lib.hid hx
  have Hd := Lib.hid hd
  have Hd1 := Lib.hid hd1
  have Hqm := Lib.hid hqm
  clear h hf hra hw hL hnd hx hd hd1 hqm
  go_enter Try.func79, Try.ntmps79
  go_wp2_with fail
  refine HF.out.mono ?_
  rintro e w1 ⟨rfl, ho⟩
  have hbx4 := box_after' ho
  have hs1 := blk_lt hbx4
  have o1 : Only Nil w w1 := ((Only.refl Nil w).alloc _).trans ho (fun _ _ h => h)
  have b4 := blk_alloc hbx4 (.cells #[.int .u32 i, .int .u32 x.life] tH)
  have b6 := blk_new w1 (.cells #[.int .u32 i, .int .u32 x.life] tH)
  have o2 : Only Nil w (w1.alloc (.cells #[.int .u32 i, .int .u32 x.life] tH)) := o1.alloc _
  clear ho o1 hbx4
  go_wp2
  generalize hw2 : w1.alloc (.cells #[.int .u32 i, .int .u32 x.life] tH) = w2 at *
  have h2 := H.out.nil o2
  have H2 := Lib.hid h2
  have O2 := Lib.hid o2
  have B4 := Lib.hid b4
  have B6 := Lib.hid b6
  clear h2 o2 b4 b6 hw2
  go_loopg [8] (L1.length) (fun m v8 wr => ∃ P R : List Nat, Hid (L1 = P ++ R) ∧ R.length = m ∧ Hid (RStep w2 D p (r.swept q P (R ++ i :: L2)) wr))
  case atStart =>
    refine ⟨[], L1, Lib.hid rfl, rfl, Lib.hid ?_⟩
    have e : r.swept q [] (L1 ++ i :: L2) = r := swept_nil HL.out
    exact e.symm ▸ RStep.refl H2.out (Only.refl _ _)
  case round =>
    obtain ⟨P, R, hPR, hm, hS⟩ := hrel
    obtain ⟨p1, h1, hfr, hon⟩ := hS.out
    have hb6 := hon.blk B6.out (RfRep.box_ne H2.out B6.out)
    have hC0 := blk_cell hb6 0
    have hClt := blk_lt hb6
    simp only [List.getElem?_toArray, List.getElem?_cons_zero] at hC0
    have hfil : P.filter (fun k => !deadAt r.places k) = [] := List.filter_eq_nil_iff.2 fun k hk => by rw [Hd1.out k (by rw [hPR.out]; simp [hk])]; simp
    have hqq : (r.swept q P (R ++ i :: L2)).queues[q]? = some (R ++ i :: L2) := by rw [swept_queue hqlt, hfil, List.nil_append]
    have hql : (r.swept q P (R ++ i :: L2)).queues.length = r.queues.length := by show (r.queues.set q _).length = _; simp
    have hnd := Hnd.out
    rw [hPR.out, List.append_assoc] at hnd
    have hlens : P.length + R.length = L1.length := by rw [hPR.out]; simp
    have hdl : (r.swept q P (R ++ i :: L2)).dropped.length ≤ 65536 := by
      show (r.dropped ++ P.filter _).length ≤ _
      have := List.length_filter_le (deadAt r.places) P
      have h2 := hdn
      rw [List.length_append] at h2 ⊢
      omega
    cases R with
    | nil =>
      simp only [List.nil_append] at *
      obtain ⟨gq, cq, ga, ca, hD3, hqc, hac, hgq, hga, hDl, _⟩ := RfRep.headq h1 hqq
      rw [hql] at hD3
      have hqlI : (q : Int) < (r.queues.length : Int) := by omega
      have hposI : (0 : Int) < ((L2.length + 1 : Nat) : Int) := by omega
      have hx1 : (r.swept q P (i :: L2)).places[i]? = some x := swept_at (fun hm => by rw [List.nodup_append] at hnd; exact hnd.2.2 i hm i (by simp) rfl) Hx.out
      have HO := Lib.hid (fun W (ho : Only Nil wr W) => out_at D q i (r.swept q P (i :: L2)) x (i :: L2) p1 W (RfRep.nil h1 ho) (by have := hdn; simp only [List.length_append] at this; rw [List.length_cons] at *; omega) hx1 hqq)
      have hPe : P = L1 := by rw [hPR.out]; simp
      have HPe := Lib.hid hPe
      clear hnd hfil hqq hx1 hdl hlens hb6 hPe hql
      go_wp2
      go_quiet (fail)
      go_wp2_with fail
      refine (HO.out _ ((Only.refl _ _).drewN _)).mono ?_
      rintro e w3 ⟨rfl, hs3⟩
      obtain ⟨p3, h3, hfr3, hon3⟩ := RStep.of (w := wr) ((Only.refl Nil _).drewN _) hs3
      have hst : RStep w D p ((r.swept q P (i :: L2)).out q i x (i :: L2)) w3 := RStep.of O2.out (RStep.cat hfr hon ⟨p3, h3, hfr3, hon3⟩)
      have hb4 := hon3.blk (hon.blk B4.out (RfRep.box_ne H2.out B4.out)) (RfRep.box_ne h1 (hon.blk B4.out (RfRep.box_ne H2.out B4.out)))
      have hb6' := hon3.blk (hon.blk B6.out (RfRep.box_ne H2.out B6.out)) (RfRep.box_ne h1 (hon.blk B6.out (RfRep.box_ne H2.out B6.out)))
      have hB0 := blk_cell hb4 0
      have hB1 := blk_cell hb4 1
      have hBf0 := blk_frozen hb4 0
      have hBf1 := blk_frozen hb4 1
      have hBlt := blk_lt hb4
      clear hC0 hClt
      have hC0 := blk_cell hb6' 0
      have hC1 := blk_cell hb6' 1
      have hClt := blk_lt hb6'
      simp only [List.getElem?_toArray, List.getElem?_cons_zero, List.getElem?_cons_succ] at hB0 hB1 hC0 hC1
      have hne : w.heap.size ≠ w1.heap.size := by omega
      have hne' := hne.symm
      have Hst := Lib.hid hst
      have Hb4 := Lib.hid hb4
      clear hst hb4 hb6' h3 hfr3 hon3 h1 hfr hon hD3 hqc hac
      go_wp2
      refine bodyPost_ret (v := .tuple #[.agg #[.int .u32 i, .int .u32 x.life], .bool true]) (by simp [results, Try.results79, go_sem, hB0, hB1]) rfl ⟨rfl, ?_⟩
      have o4 : Only (fun k => k = w.heap.size) w3 ((w3.setCell ⟨w.heap.size, 0, none⟩ (.int .u32 i)).setCell ⟨w.heap.size, 1, none⟩ (.int .u32 x.life)) :=
        ((Only.refl (fun k => k = w.heap.size) w3).setCell (p := ⟨w.heap.size, 0, none⟩) (.inl rfl) _).setCell (p := ⟨w.heap.size, 1, none⟩) (.inl rfl) _
      rw [← HPe.out]
      exact RStep.box Hst.out Hb4.out (Nat.le_refl _) o4
    | cons j R =>
      simp only [List.cons_append] at *
      obtain ⟨gq, cq, ga, ca, hD3, hqc, hac, hgq, hga, hDl, _⟩ := RfRep.headq h1 hqq
      rw [hql] at hD3
      have hqlI : (q : Int) < (r.queues.length : Int) := by omega
      have hposI : (0 : Int) < (((R ++ i :: L2).length + 1 : Nat) : Int) := by omega
      have hji : j ≠ i := by
        rw [List.nodup_append, List.nodup_cons] at hnd
        intro e
        exact hnd.2.1.1 (by simp [e])
      have hjP : j ∉ P := fun hm => by rw [List.nodup_append] at hnd; exact hnd.2.2 j hm j (by simp) rfl
      have hne : ((j : Int) != (i : Int)) = true := by simp; omega
      have hjl : j < r.places.length := Hqm.out.2 j (by rw [hPR.out]; simp)
      have hxj : r.places[j]? = some r.places[j] := List.getElem?_eq_getElem hjl
      generalize r.places[j] = y at *
      have hyd : y.dead = true := by rw [← deadAt_at hxj]; exact Hd1.out j (by rw [hPR.out]; simp)
      have hx1 : (r.swept q P (j :: (R ++ i :: L2))).places[j]? = some y := swept_at hjP hxj
      have hdrop := swept_drop (q := q) hnd hxj hyd
      rw [hfil, List.nil_append] at hdrop
      have HO := Lib.hid (fun W (ho : Only Nil wr W) => out_at D q j (r.swept q P (j :: (R ++ i :: L2))) y (j :: (R ++ i :: L2)) p1 W (RfRep.nil h1 ho) (by have := hdn; simp only [List.length_append, List.length_cons] at *; omega) hx1 hqq)
      have HV := Lib.hid (fun W p3 (h3 : RfIs W D ((r.swept q P (j :: (R ++ i :: L2))).out q j y (j :: (R ++ i :: L2))) p3) => gives_at D j ((r.swept q P (j :: (R ++ i :: L2))).out q j y (j :: (R ++ i :: L2))) { y with inn := 0, dead := false } p3 W h3
        (by show (List.set _ _ _).length ≤ _; rw [List.length_set, swept_len]; exact hlen) hdl (by show (List.set _ _ _)[j]? = _; rw [List.getElem?_set_self (by rw [swept_len]; exact hjl)]))
      rw [hdrop] at HV
      have H1 := Lib.hid h1
      clear hnd hfil hqq hx1 hdl hlens hb6 hql hjP hxj hyd hdrop h1
      go_wp2
      go_quiet (fail)
      go_wp2_with fail
      refine (HO.out _ ((Only.refl _ _).drewN _)).mono ?_
      rintro e w3 ⟨rfl, p3, h3, hfr3, hon3⟩
      have HV3 := Lib.hid (HV.out w3 p3 h3)
      clear h3
      go_wp2_with fail
      refine HV3.out.mono ?_
      rintro e w4 ⟨rfl, hs4⟩
      have hS4 := Lib.hid (RStep.cat hfr hon (RStep.of (w0 := wr.drewN nq) ((Only.refl Nil _).drewN _) (RStep.cat hfr3 hon3 hs4)))
      clear hs4 hfr3 hon3 hfr hon hD3 hqc hac
      go_wp2
      go_roundg (R.length)
      case measure => simp at hm; omega
      case rel => exact ⟨P ++ [j], R, Lib.hid (by rw [hPR.out]; simp), rfl, hS4⟩
end Rfw
end Go.Proofs.Ytnhedhmffgaohaa
