/- The walk of the document's Sweep. -/
import Derived.Test.YtnhedhmffgaohaaRfK
namespace Go.Proofs.Ytnhedhmffgaohaa
open Go.RowKit
namespace Rfw

set_option maxHeartbeats 1600000 in
set_option maxRecDepth 100000 in
theorem sweep_nil (D q : Nat) (r : Rf) (p : Rp) (w : World) (h : RfIs w D r p) (hw : r.wf) (hL : r.queues[q]? = some []) :
    Calls Try.prog 81 #[.pointer (some ⟨D, 0, none⟩), .int .i64 q] w fun e w' => e = .returned (.int .i64 0) ∧ Only Nil w w' := by
  obtain ⟨i0, hi0, hz0, hz1, hz2⟩ := info_parts infoI
  have hqlt := (List.getElem?_eq_some_iff.1 hL).1
  have hqn := hw.qn
  obtain ⟨gq, cq, A, ca, hvq, hgq, hcq, hgqD, hqc, hrq, hca, _, _⟩ := h.qrow hL
  have hD3 := h.base.2.2.2.1
  rw [hvq] at hD3
  have hDlt := h.base.2.2.2.2.2
  have hqlI : (q : Int) < (r.queues.length : Int) := by omega
  simp only [List.length_nil] at hqc
  clear h hw hvq hrq hL
  go_enter Try.func81, Try.ntmps81
  go_wp2_with (at_builtin; (refine wpList_append_zero rfl (.tmp 8) (.tmp 15) _ rfl tI i0 Try.underlying22 hi0 (some ⟨w.heap.size, 0, none⟩) 0 0 (Nat.le_refl _) rfl A ca rfl ?_))
  go_loopg [5, 7] (0) (fun m v5 v7 wr => m = 0 ∧ v5 = .int .i64 0 ∧ v7 = .int .i64 0 ∧ Only Nil w wr)
  case atStart => exact ⟨rfl, rfl, rfl, (Only.refl _ _).alloc _⟩
  case round =>
    obtain ⟨rfl, rfl, rfl, hon⟩ := hrel
    go_wp2
    go_ret
    exact ⟨rfl, hon⟩

theorem fil_snoc (f : Nat → Bool) (l : List Nat) (j : Nat) : ((l ++ [j]).filter f).length = (l.filter f).length + (if f j = true then 1 else 0) := by
  rw [List.filter_append]; cases h : f j <;> simp [h]

set_option maxHeartbeats 3200000 in
set_option maxRecDepth 100000 in
theorem sweep_cons (D q : Nat) (r : Rf) (L : List Nat) (p : Rp) (w : World) (h : RfIs w D r p) (hw : r.wf) (hL : r.queues[q]? = some L) (h0 : 0 < L.length) (hnd : L.Nodup) (hdn : r.dropped.length + L.length ≤ 65536) :
    Calls Try.prog 81 #[.pointer (some ⟨D, 0, none⟩), .int .i64 q] w fun e w' =>
      e = .returned (.int .i64 ((L.filter (deadAt r.places)).length : Int)) ∧ RStep w D p (r.swept q L []) w' := by
  obtain ⟨i0, hi0, hz0, hz1, hz2⟩ := info_parts infoI
  have hlen := hw.len
  have hqlt := (List.getElem?_eq_some_iff.1 hL).1
  have hqn := hw.qn
  have hqm := hw.ql _ (List.mem_of_getElem? hL)
  have hll := hqm.1
  obtain ⟨gq, cq, A, ca, hvq, hgq, hcq, hgqD, hqc, hrq, hca, hrow, _⟩ := h.qrow hL
  obtain ⟨gl, cl, e, hgl, hcl, _⟩ := own_row hrow h0
  injection e with e1 _ e2
  subst e1
  subst e2
  have hD3 := h.base.2.2.2.1
  rw [hvq] at hD3
  have hDlt := h.base.2.2.2.2.2
  have hqlI : (q : Int) < (r.queues.length : Int) := by omega
  have H := Lib.hid h
  have HL := Lib.hid hL
  have Hnd := Lib.hid hnd
  have Hqm := Lib.hid hqm
  have hrow1 := hrow.alloc (.cells #[] tI)
  have hnews : ∀ (j : Nat) (u : Value), (ints L)[j]? = some u → (w.alloc (.cells #[] tI)).cell? ((⟨gl, 0, none⟩ : Addr).add j) = some u := fun j u hu => by
    have := own_cell hrow1 hu
    rw [Addr.add_lit, Nat.zero_add]
    exact this
  have Hnews := Lib.hid hnews
  clear h hw hvq hrq hL hrow hrow1 hnews hnd hqm
  have hown0 : (w.alloc (.cells #[] tI)).ownsRow 0 tI 1 (.slice (some ⟨w.heap.size, 0, none⟩) 0 0) 0 [] := World.ownsRow_lit (base := 0) (e := tI) (size := 1) w #[] 0 (Nat.zero_le _) (by unfold maxLen; omega) rfl
  have Hown0 := Lib.hid hown0
  clear hown0
  go_enter Try.func81, Try.ntmps81
  go_wp2_with (at_builtin; (refine wpList_append_lies _ rfl (.tmp 8) (.tmp 15) _ rfl 0 tI i0 _ 1 8 Try.underlying22 hi0 hz0 hz1 hz2 rfl (by omega) (.slice (some ⟨w.heap.size, 0, none⟩) 0 0) 0 [] rfl Hown0.out ⟨gl, 0, none⟩ L.length ca (ints L) rfl (by simp [ints]) Hnews.out (by simp [ints, Value.oneCell']) h0 (by unfold maxLen; omega) (by omega) (by omega) _ rfl ?_); intro g' cap w2 hown hgrow hat hlt1)
  have o2 : Only Nil w w2 := ((Only.refl Nil w).alloc (.cells #[] tI)).grown hgrow (fun k hk hlt => by have := ob_eq hk; omega)
  have hg' : w.heap.size ≤ g' := by
    rcases hat with e | e
    · have := ob_eq e; omega
    · simp at e; omega
  simp only [Nat.zero_add, List.nil_append] at hown ⊢
  have H2 := Lib.hid (H.out.nil o2)
  have lrow : ∀ W, Only (p.D D) w2 W → W.ownsRow 0 tI 1 (.slice (some ⟨g', 0, none⟩) L.length cap) L.length (ints L) := fun W ho => own_only hown ho fun k hk hd => by
    have := ob_eq hk
    subst this
    have := H.out.lt hd
    omega
  have Lrow := Lib.hid lrow
  have O2 := Lib.hid o2
  clear hown hgrow hat lrow o2 Hown0 Hnews hD3 hqc
  go_wp2
  go_loopg [5, 7] (L.length) (fun m v5 v7 wr => ∃ k : Nat, k ≤ L.length ∧ m = L.length - k ∧ v5 = .int .i64 (((L.take k).filter (deadAt r.places)).length : Int) ∧ v7 = .int .i64 k ∧ Hid (RStep w2 D p (r.swept q (L.take k) (L.drop k)) wr))
  case atStart =>
    refine ⟨0, Nat.zero_le _, rfl, rfl, rfl, Lib.hid ?_⟩
    have e : r.swept q (L.take 0) (L.drop 0) = r := by rw [List.take_zero, List.drop_zero]; exact swept_nil HL.out
    exact e.symm ▸ RStep.refl H2.out (Only.refl _ _)
  case round =>
    obtain ⟨k, hk, hm, rfl, rfl, hS⟩ := hrel
    by_cases hlt : k < L.length
    · obtain ⟨p1, h1, hfr, hon⟩ := hS.out
      have hLk : L[k]? = some L[k] := List.getElem?_eq_getElem hlt
      have hts : L.take (k + 1) = L.take k ++ [L[k]] := by rw [List.take_succ_eq_append_getElem hlt]
      have hds : L.drop k = L[k] :: L.drop (k + 1) := List.drop_eq_getElem_cons hlt
      have hnd : (L.take k ++ L[k] :: L.drop (k + 1)).Nodup := by rw [← hds, List.take_append_drop]; exact Hnd.out
      have hjl := Hqm.out.2 L[k] (List.getElem_mem hlt)
      have hlr := Lrow.out wr hon
      have hLc := row_get hlr hLk
      have hgl' : g' < wr.heap.size := own_lt hlr rfl
      have hxj : r.places[L[k]]? = some r.places[L[k]] := List.getElem?_eq_getElem hjl
      have hfl := fil_snoc (deadAt r.places) (L.take k) L[k]
      rw [← hts, deadAt_at hxj] at hfl
      have hcl' : ((L.take k).filter (deadAt r.places)).length ≤ 65536 := by
        have h1 := List.length_filter_le (deadAt r.places) (L.take k)
        have h2 := List.length_take_le k L
        omega
      have hdl : (r.swept q (L.take k) (L.drop k)).dropped.length ≤ 65536 := by
        show (r.dropped ++ (L.take k).filter _).length ≤ _
        have h1 := List.length_filter_le (deadAt r.places) (L.take k)
        have h2 := List.length_take_le k L
        rw [List.length_append]
        omega
      have hqe := swept_queue (r := r) (P := L.take k) (M := L.drop k) hqlt
      have hpl : (r.swept q (L.take k) (L.drop k)).places.length = r.places.length := swept_len
      generalize r.places[L[k]] = y at *
      generalize L[k] = j at *
      have hjP : j ∉ L.take k := fun hm => by rw [List.nodup_append] at hnd; exact hnd.2.2 j hm j (by simp) rfl
      have hx1 : (r.swept q (L.take k) (L.drop k)).places[j]? = some y := swept_at hjP hxj
      obtain ⟨gp, cp, hvp, hgp, hcp, _, _⟩ := RfRep.prow h1 (i := j) (by rw [hpl]; exact hjl)
      have hD0 := (RfRep.base h1).1
      rw [hvp, hpl] at hD0
      have hp1 := RfRep.p h1
      rw [hvp] at hp1
      have hn4 := (pl_of hp1 hx1).c4
      have hDl := (RfRep.base h1).2.2.2.2.2
      have hjI : (j : Int) < (r.places.length : Int) := by omega
      have hkI : (k : Int) < (L.length : Int) := by omega
      cases hd : y.dead with
      | false =>
        rw [hd] at hn4
        have hkeep := swept_keep (q := q) (P := L.take k) (M := L.drop (k + 1)) hxj hd
        rw [← hts, ← hds] at hkeep
        rw [hd] at hfl
        simp only [Bool.false_eq_true, if_false, Nat.add_zero] at hfl
        have Hkeep := Lib.hid hkeep
        have Hfl := Lib.hid hfl
        clear hkeep hfl hp1 hvp h1 hfr hon hLk hts hds hnd hlr hxj hx1 hjP hqe hd
        go_wp2
        go_quiet (fail)
        go_wp2
        go_roundg (L.length - (k + 1))
        case measure => omega
        case rel => exact ⟨k + 1, by omega, rfl, by rw [Hfl.out], by go_num, by rw [← Hkeep.out]; exact Lib.hid (hS.out.nil ((Only.refl Nil _).drewN _))⟩
      | true =>
        rw [hd] at hn4
        rw [hd, if_pos rfl] at hfl
        have hdrop := swept_drop (q := q) hnd hxj hd
        rw [← hts, ← hds] at hdrop
        have hql2 : ((L.take k).filter (fun k => !deadAt r.places k) ++ L.drop k).length ≤ 65536 := by
          have h1 := List.length_filter_le (fun k => !deadAt r.places k) (L.take k)
          have h2 : (L.take k).length + (L.drop k).length = L.length := by rw [← List.length_append, List.take_append_drop]
          rw [List.length_append]
          omega
        have HO := Lib.hid (fun W (ho : Only Nil wr W) => out_at D q j _ y _ p1 W (RfRep.nil h1 ho) hql2 hx1 hqe)
        have HV := Lib.hid (fun W p3 (h3 : RfIs W D ((r.swept q (L.take k) (L.drop k)).out q j y ((L.take k).filter (fun k => !deadAt r.places k) ++ L.drop k)) p3) => gives_at D j _ { y with inn := 0, dead := false } p3 W h3
          (by show (List.set _ _ _).length ≤ _; rw [List.length_set, swept_len]; exact hlen) hdl (by show (List.set _ _ _)[j]? = _; rw [List.getElem?_set_self (by rw [swept_len]; exact hjl)]))
        rw [hdrop] at HV
        have Hfl := Lib.hid hfl
        have HLk := Lib.hid hLk
        clear hfl hp1 hvp h1 hLk hts hds hnd hlr hxj hx1 hjP hqe hd hdrop hql2
        go_wp2
        go_quiet (fail)
        go_wp2_with fail
        refine (HO.out _ ((Only.refl _ _).drewN _)).mono ?_
        rintro e w3 ⟨rfl, hs3⟩
        obtain ⟨p3, h3, hfr3, hon3⟩ := RStep.cat hfr hon (RStep.of (w := wr) ((Only.refl Nil _).drewN _) hs3)
        have hlr3 := Lrow.out w3 hon3
        clear hLc hgl'
        have hLc := row_get hlr3 HLk.out
        have hgl' : g' < w3.heap.size := own_lt hlr3 rfl
        have HV3 := Lib.hid (HV.out w3 p3 h3)
        clear h3 hs3 hlr3 hfr hon hD0 hn4
        go_wp2_with fail
        refine HV3.out.mono ?_
        rintro e w4 ⟨rfl, hs4⟩
        have hS4 := Lib.hid (RStep.cat hfr3 hon3 hs4)
        clear hs4 hfr3 hon3 hLc
        go_wp2
        go_roundg (L.length - (k + 1))
        case measure => omega
        case rel => exact ⟨k + 1, by omega, rfl, by rw [Hfl.out]; go_num, by go_num, hS4⟩
    · have he : k = L.length := by omega
      have hfin := hS.out
      rw [he, List.take_length, List.drop_length] at hfin
      have Hfin := Lib.hid hfin
      have hkI : ¬ ((k : Int) < (L.length : Int)) := by omega
      have hv : ((L.take k).filter (deadAt r.places)).length = (L.filter (deadAt r.places)).length := by rw [he, List.take_length]
      have Hv := Lib.hid hv
      clear hfin hv he
      go_wp2
      go_ret
      exact ⟨ret_int (by rw [Hv.out]), RStep.of O2.out Hfin.out⟩
end Rfw
end Go.Proofs.Ytnhedhmffgaohaa
