/- The walks of rejected. -/
import Derived.Test.YtcnkbhgdcfckoaaMp
set_option linter.unusedVariables false
set_option linter.unusedSimpArgs false
namespace Go.Proofs.Ytcnkbhgdcfckoaa
open Go.RowKit
namespace Ck

set_option maxHeartbeats 6400000 in
set_option maxRecDepth 100000 in
theorem rej_1 (C : Nat) (b : Bk) (e : Ev) (v1 v2 p6 p7 : Value) (w : World) (h : BkRep w C b v1 v2 p6 p7) (hb : b.ok) (hn : e = evRej e) (i : Nat) (r : Rs) (hf : b.find e.target = some (1, i)) (hd : (b.side 1)[i]? = some r) :
    Calls Try.prog 33 #[.pointer (some ⟨C, 0, none⟩), .agg e.row] w fun r w' => r = .returned (.int .i64 (rejected b e)) ∧ Only Nil w w' := by
  have HRj : Hid (rejected b e = if rejOk b e then 0 else 195) := Lib.hid (rejected_eq hn)
  have kk : (!decide (e = evRej e)) = false := by rw [decide_eq_true hn]; rfl
  have hroom := hb.room
  have HFi := Lib.hid (fun W (ho : Only Nil w W) => find_any e.target C b v1 v2 p6 p7 W (h.nil ho))
  have HCt := Lib.hid (fun W (ho : Only Nil w W) => count_any C b v1 v2 p6 p7 W (h.nil ho) (by omega))
  rw [hf] at HFi
  unfold findV at HFi
  have Hag : Hid (rejOk b e = rejOkB e true (decide (b.high < e.id)) (decide (b.cap ≤ (b.count : Int))) (decide (0 < b.count)) (decide (r.typ = 5) && decide (0 < b.sells.length))) := Lib.hid (rejOk_some hf hd rfl)
  have hd' : b.buys[i]? = some r := hd
  have hi : i < b.buys.length := (List.getElem?_eq_some_iff.1 hd').1
  have hii : (i : Int) < (b.buys.length : Int) := by omega
  have hi0 : (0 : Int) ≤ (i : Int) := by omega
  have hsb : IntKind.i64.wrap 0 = 0 := by rw [IntKind.wrap_i64]; omega
  have hsb2 : IntKind.i64.wrap (2 - 1) = 1 := by rw [IntKind.wrap_i64]; omega
  obtain ⟨g, cp, rfl, hgl, hnc, hcm⟩ := own_row h.r1 (by omega)
  obtain ⟨Ao, co, rfl, _⟩ := own_slice h.r2
  have Hd := Lib.hid hd'
  clear hd' hd hgl
  clear hf hn
  have HX := Lib.hid h
  have HE0 := Lib.hid (blk_new w (.cells e.row tEvt))
  have HO0 := Lib.hid ((Only.refl Nil w).alloc (.cells e.row tEvt))
  clear h hb
  go_enter Try.func33, Try.ntmps33
  unfold Ev.row
  go_upto_region 1 with fail
  generalize hW : World.alloc w _ = W1
  have hW' : w.alloc (.cells e.row tEvt) = W1 := hW
  rw [hW'] at HE0 HO0
  clear hW hW'
  have HX1 := Lib.hid (HX.out.nil HO0.out)
  obtain ⟨e0, e1, e2, e3, e4, e5, e6, e7, e8, e9, e10, e11, e12, ef, el⟩ := ev_cells HE0.out
  go_upto_region 3 with (refine wpList_ev_neq rfl (.tmp 14) (.tmp 25) rfl e (evRej e) rfl rfl ?_)
  all_goals try (exfalso; have hx := kk.symm.trans (show (!decide (e = evRej e)) = true by assumption); cases hx; done)
  go_wp2_with fail
  refine (HFi.out _ HO0.out).mono ?_
  rintro x w2 ⟨rfl, ho⟩
  have HO2 : Hid (Only Nil w w2) := Lib.hid (HO0.out.trans (S := Nil) ho (fun _ _ h => h))
  have HE2 : Hid (w2.heap[w.heap.size]? = some (.cells e.row tEvt (0, 0))) := Lib.hid (ho.blk HE0.out (fun h => h))
  clear ho HO0 HE0 HX1 e0 e1 e2 e3 e4 e5 e6 e7 e8 e9 e10 e11 e12 ef el
  obtain ⟨e0, e1, e2, e3, e4, e5, e6, e7, e8, e9, e10, e11, e12, ef, el⟩ := ev_cells HE2.out
  go_upto_region 4 with fail
  rcases (by by_cases q : e.target = 0 <;> simp [q] : ((e.target == 0) = true ∧ decide (e.target = 0) = true) ∨ ((e.target == 0) = false ∧ decide (e.target = 0) = false)) with ⟨tz, tzd⟩ | ⟨tz, tzd⟩
  · as_aux_lemma =>
    go_upto_region 5 with fail
    have hX := HX.out.nil HO2.out
    have c0 := blk_cell hX.blk 0
    have c4 := blk_cell hX.blk 4
    have cl := blk_lt hX.blk
    simp only [List.getElem?_toArray, List.getElem?_cons_zero, List.getElem?_cons_succ] at c0 c4
    clear hX
    go_quiet (fail)
    have HO2' := Lib.hid (HO2.out.drewN nq)
    have HE2' := Lib.hid (blk_drewN HE2.out nq)
    clear e0 e1 e2 e3 e4 e5 e6 e7 e8 e9 e10 e11 e12 ef el c0 c4 cl HO2 HE2
    generalize hWW : World.drewN _ nq = w3 at HO2' HE2' ⊢
    clear hWW
    have HO2 := HO2'
    have HE2 := HE2'
    clear HO2' HE2'
    obtain ⟨e0, e1, e2, e3, e4, e5, e6, e7, e8, e9, e10, e11, e12, ef, el⟩ := ev_cells HE2.out
    have hX := HX.out.nil HO2.out
    have c0 := blk_cell hX.blk 0
    have c4 := blk_cell hX.blk 4
    have cl := blk_lt hX.blk
    simp only [List.getElem?_toArray, List.getElem?_cons_zero, List.getElem?_cons_succ] at c0 c4
    clear hX
    have HCo := Lib.hid (fun k => HCt.out _ (HO2.out.drewN k))
    go_upto_region 6 with fail
    go_quiet (exact Calls.quiet_of (HCo.out _))
    have HO2' := Lib.hid (HO2.out.drewN nq)
    have HE2' := Lib.hid (blk_drewN HE2.out nq)
    clear e0 e1 e2 e3 e4 e5 e6 e7 e8 e9 e10 e11 e12 ef el c0 c4 cl HO2 HE2
    generalize hWW : World.drewN _ nq = w3 at HO2' HE2' ⊢
    clear hWW
    have HO2 := HO2'
    have HE2 := HE2'
    clear HO2' HE2'
    obtain ⟨e0, e1, e2, e3, e4, e5, e6, e7, e8, e9, e10, e11, e12, ef, el⟩ := ev_cells HE2.out
    go_upto_region 8 with fail
    generalize decide (b.high < e.id) = ab at *
    generalize decide (b.cap ≤ (b.count : Int)) = fu at *
    generalize hagn : (decide (r.typ = 5) && decide (0 < b.sells.length)) = ag at Hag
    go_cut [11, 57] from 11 to 142 (fun v11 v57 wc => v11 = .bool false ∧ v57 = .int .i64 e.code ∧ Hid (Only Nil w wc) ∧ Hid (wc.heap[w.heap.size]? = some (.cells e.row tEvt (0, 0))))
    case first =>
      go_wp2
      go_meet
      case rel => exact ⟨rfl, rfl, HO2, HE2⟩
    case rest =>
    obtain ⟨rfl, rfl, HO3, HE3⟩ := hcut
    clear e0 e1 e2 e3 e4 e5 e6 e7 e8 e9 e10 e11 e12 ef el HO2 HE2
    have HO2 := HO3
    have HE2 := HE3
    clear HO3 HE3
    obtain ⟨e0, e1, e2, e3, e4, e5, e6, e7, e8, e9, e10, e11, e12, ef, el⟩ := ev_cells HE2.out
    go_step
    go_cut [11] from 11 to 142 (fun v11 wc => v11 = .bool (rejOkB e true ab fu (decide (0 < b.count)) ag) ∧ Hid (Only Nil w wc))
    case first =>
      rcases code_ways e.code with hk | hk | hk | hk | hk | hk | hk | hk | hk | hk | hk
      · as_aux_lemma =>
          have k90 : (e.code == 90) = true := by simp; omega
          have Hk := Lib.hid hk
          clear hk
          go_wp2
          go_meet
          case rel => exact ⟨by have hk := Hk.out; simp [rejOkB, hk, tzd], HO2⟩
      · as_aux_lemma =>
          have k90 : (e.code == 90) = false := by simp; omega
          have k91 : (e.code == 91) = true := by simp; omega
          have Hk := Lib.hid hk
          clear hk
          go_wp2
          go_meet
          case rel => exact ⟨by have hk := Hk.out; simp [rejOkB, hk, tzd], HO2⟩
      · as_aux_lemma =>
          have k90 : (e.code == 90) = false := by simp; omega
          have k91 : (e.code == 91) = false := by simp; omega
          have k92 : (e.code == 92) = true := by simp; omega
          have Hk := Lib.hid hk
          clear hk
          go_wp2
          go_meet
          case rel => exact ⟨by have hk := Hk.out; simp [rejOkB, hk, tzd], HO2⟩
      · as_aux_lemma =>
          have k90 : (e.code == 90) = false := by simp; omega
          have k91 : (e.code == 91) = false := by simp; omega
          have k92 : (e.code == 92) = false := by simp; omega
          have k93 : (e.code == 93) = true := by simp; omega
          have Hk := Lib.hid hk
          clear hk
          go_wp2
          go_meet
          case rel => exact ⟨by have hk := Hk.out; simp [rejOkB, hk, tzd], HO2⟩
      · as_aux_lemma =>
          have k90 : (e.code == 90) = false := by simp; omega
          have k91 : (e.code == 91) = false := by simp; omega
          have k92 : (e.code == 92) = false := by simp; omega
          have k93 : (e.code == 93) = false := by simp; omega
          have k94 : (e.code == 94) = true := by simp; omega
          have Hk := Lib.hid hk
          clear hk
          go_wp2
          go_meet
          case rel => exact ⟨by have hk := Hk.out; simp [rejOkB, hk, tzd], HO2⟩
      · as_aux_lemma =>
          have k90 : (e.code == 90) = false := by simp; omega
          have k91 : (e.code == 91) = false := by simp; omega
          have k92 : (e.code == 92) = false := by simp; omega
          have k93 : (e.code == 93) = false := by simp; omega
          have k94 : (e.code == 94) = false := by simp; omega
          have k95 : (e.code == 95) = true := by simp; omega
          have Hk := Lib.hid hk
          clear hk
          go_wp2
          go_meet
          case rel => exact ⟨by have hk := Hk.out; simp [rejOkB, hk, tzd], HO2⟩
      · as_aux_lemma =>
          have k90 : (e.code == 90) = false := by simp; omega
          have k91 : (e.code == 91) = false := by simp; omega
          have k92 : (e.code == 92) = false := by simp; omega
          have k93 : (e.code == 93) = false := by simp; omega
          have k94 : (e.code == 94) = false := by simp; omega
          have k95 : (e.code == 95) = false := by simp; omega
          have k96 : (e.code == 96) = true := by simp; omega
          have Hk := Lib.hid hk
          clear hk
          go_wp2
          go_meet
          case rel => exact ⟨by have hk := Hk.out; simp [rejOkB, hk, tzd], HO2⟩
      · as_aux_lemma =>
          have k90 : (e.code == 90) = false := by simp; omega
          have k91 : (e.code == 91) = false := by simp; omega
          have k92 : (e.code == 92) = false := by simp; omega
          have k93 : (e.code == 93) = false := by simp; omega
          have k94 : (e.code == 94) = false := by simp; omega
          have k95 : (e.code == 95) = false := by simp; omega
          have k96 : (e.code == 96) = false := by simp; omega
          have k97 : (e.code == 97) = true := by simp; omega
          have Hk := Lib.hid hk
          clear hk
          cases ab with
          | false =>
            go_wp2
            go_meet
            case rel => exact ⟨by have hk := Hk.out; simp [rejOkB, hk, tzd], HO2⟩
          | true =>
            go_wp2
            go_meet
            case rel => exact ⟨by have hk := Hk.out; simp [rejOkB, hk, tzd], HO2⟩
      · as_aux_lemma =>
          have k90 : (e.code == 90) = false := by simp; omega
          have k91 : (e.code == 91) = false := by simp; omega
          have k92 : (e.code == 92) = false := by simp; omega
          have k93 : (e.code == 93) = false := by simp; omega
          have k94 : (e.code == 94) = false := by simp; omega
          have k95 : (e.code == 95) = false := by simp; omega
          have k96 : (e.code == 96) = false := by simp; omega
          have k97 : (e.code == 97) = false := by simp; omega
          have k98 : (e.code == 98) = true := by simp; omega
          have Hk := Lib.hid hk
          clear hk
          cases ab with
          | false =>
            go_wp2
            go_meet
            case rel => exact ⟨by have hk := Hk.out; simp [rejOkB, hk, tzd], HO2⟩
          | true =>
            go_wp2
            go_meet
            case rel => exact ⟨by have hk := Hk.out; simp [rejOkB, hk, tzd], HO2⟩
      · as_aux_lemma =>
          have k90 : (e.code == 90) = false := by simp; omega
          have k91 : (e.code == 91) = false := by simp; omega
          have k92 : (e.code == 92) = false := by simp; omega
          have k93 : (e.code == 93) = false := by simp; omega
          have k94 : (e.code == 94) = false := by simp; omega
          have k95 : (e.code == 95) = false := by simp; omega
          have k96 : (e.code == 96) = false := by simp; omega
          have k97 : (e.code == 97) = false := by simp; omega
          have k98 : (e.code == 98) = false := by simp; omega
          have k99 : (e.code == 99) = true := by simp; omega
          have hok : rejOkB e true ab fu (decide (0 < b.count)) ag = (ab && ((true && decide (0 < b.count) && !fu) || ag)) := by simp [rejOkB, hk, tzd]
          have Hk := Lib.hid hk
          clear hk
          go_upto_region 25 with fail
          go_cut [12] from 12 to 142 (fun v12 wd => v12 = .bool (true && decide (0 < b.count) && !fu) ∧ Hid (Only Nil w wd) ∧ Hid (wd.heap[w.heap.size]? = some (.cells e.row tEvt (0, 0))))
          case first =>
            have hdd : decide (0 < (b.count : Int)) = decide (0 < b.count) := by simp
            clear hok
            cases hq : decide (0 < b.count) <;> rw [hq] at hdd <;> cases fu
            all_goals
              go_wp2_with (refine (HCt.out _ HO2.out).mono ?_; rintro x w4 ⟨rfl, nn, rfl⟩)
              go_meet
              case rel => exact ⟨by first | (rw [hq]; rfl) | rfl | simp, Lib.hid (HO2.out.drewN _), Lib.hid (blk_drewN HE2.out _)⟩
          case rest =>
            obtain ⟨rfl, HO3, HE3⟩ := hcut
            clear e0 e1 e2 e3 e4 e5 e6 e7 e8 e9 e10 e11 e12 ef el HO2 HE2
            have HO2 := HO3
            have HE2 := HE3
            clear HO3 HE3
            obtain ⟨e0, e1, e2, e3, e4, e5, e6, e7, e8, e9, e10, e11, e12, ef, el⟩ := ev_cells HE2.out
            go_upto_region 26 with fail
            go_cut [13] from 13 to 142 (fun v13 wd => v13 = .bool ag ∧ Hid (Only Nil w wd) ∧ Hid (wd.heap[w.heap.size]? = some (.cells e.row tEvt (0, 0))))
            case first =>
              have hX := HX.out.nil HO2.out
              have cs := blk_cell hX.blk 2
              have co := blk_cell hX.blk 3
              have cl := blk_lt hX.blk
              simp only [List.getElem?_toArray, List.getElem?_cons_zero, List.getElem?_cons_succ] at cs co
              have q2 := row_at hX.r1 (i := i) (r := r) Hd.out 2 (by omega)
              simp only [Rs.cells, List.getElem?_cons_zero, List.getElem?_cons_succ] at q2
              clear hX
              have hdo : decide (0 < (b.sells.length : Int)) = decide (0 < b.sells.length) := by simp
              have ht5 : (r.typ == 5) = decide (r.typ = 5) := by by_cases q : r.typ = 5 <;> simp [q]
              subst hagn
              cases hq : decide (0 < b.sells.length) <;> rw [hq] at hdo <;> cases hr : decide (r.typ = 5) <;> rw [hr] at ht5
              all_goals
                go_wp2
                go_meet
                case rel => exact ⟨by first | (rw [hr, hq]; rfl) | rfl | simp, HO2, HE2⟩
            case rest =>
              obtain ⟨rfl, HO3, HE3⟩ := hcut
              clear e0 e1 e2 e3 e4 e5 e6 e7 e8 e9 e10 e11 e12 ef el HO2 HE2
              have HO2 := HO3
              have HE2 := HE3
              clear HO3 HE3
              obtain ⟨e0, e1, e2, e3, e4, e5, e6, e7, e8, e9, e10, e11, e12, ef, el⟩ := ev_cells HE2.out
              clear e0 e1 e2 e3 e4 e5 e6 e7 e8 e9 e10 e11 e12 ef el
              generalize (true && decide (0 < b.count) && !fu) = x12 at hok ⊢
              cases ab <;> cases x12 <;> cases ag
              all_goals
                go_wp2
                go_meet
                case rel => exact ⟨by rw [hok]; rfl, HO2⟩
      · as_aux_lemma =>
          have k90 : (e.code == 90) = false := by simp; omega
          have k91 : (e.code == 91) = false := by simp; omega
          have k92 : (e.code == 92) = false := by simp; omega
          have k93 : (e.code == 93) = false := by simp; omega
          have k94 : (e.code == 94) = false := by simp; omega
          have k95 : (e.code == 95) = false := by simp; omega
          have k96 : (e.code == 96) = false := by simp; omega
          have k97 : (e.code == 97) = false := by simp; omega
          have k98 : (e.code == 98) = false := by simp; omega
          have k99 : (e.code == 99) = false := by simp; omega
          have Hk := Lib.hid hk
          clear hk
          go_wp2
          go_meet
          case rel => exact ⟨by obtain ⟨q0, q1, q2, q3, q4, q5, q6, q7, q8, q9⟩ := Hk.out; simp [rejOkB, tzd, q0, q1, q2, q3, q4, q5, q6, q7, q8, q9], HO2⟩
    case rest =>
      obtain ⟨rfl, HO⟩ := hcut
      have HAn : Hid (rejected b e = if rejOkB e true ab fu (decide (0 < b.count)) ag then 0 else 195) := Lib.hid (by rw [HRj.out, Hag.out])
      generalize rejOkB e true ab fu (decide (0 < b.count)) ag = ok at *
      cases ok with
      | false =>
        go_wp2
        go_ret
        exact ⟨by rw [HAn.out]; rfl, HO.out⟩
      | true =>
        go_wp2
        go_ret
        exact ⟨by rw [HAn.out]; rfl, HO.out⟩
  · as_aux_lemma =>
    go_upto_region 5 with fail
    have hX := HX.out.nil HO2.out
    have c0 := blk_cell hX.blk 0
    have c4 := blk_cell hX.blk 4
    have cl := blk_lt hX.blk
    simp only [List.getElem?_toArray, List.getElem?_cons_zero, List.getElem?_cons_succ] at c0 c4
    clear hX
    go_quiet (fail)
    have HO2' := Lib.hid (HO2.out.drewN nq)
    have HE2' := Lib.hid (blk_drewN HE2.out nq)
    clear e0 e1 e2 e3 e4 e5 e6 e7 e8 e9 e10 e11 e12 ef el c0 c4 cl HO2 HE2
    generalize hWW : World.drewN _ nq = w3 at HO2' HE2' ⊢
    clear hWW
    have HO2 := HO2'
    have HE2 := HE2'
    clear HO2' HE2'
    obtain ⟨e0, e1, e2, e3, e4, e5, e6, e7, e8, e9, e10, e11, e12, ef, el⟩ := ev_cells HE2.out
    have hX := HX.out.nil HO2.out
    have c0 := blk_cell hX.blk 0
    have c4 := blk_cell hX.blk 4
    have cl := blk_lt hX.blk
    simp only [List.getElem?_toArray, List.getElem?_cons_zero, List.getElem?_cons_succ] at c0 c4
    clear hX
    have HCo := Lib.hid (fun k => HCt.out _ (HO2.out.drewN k))
    go_upto_region 6 with fail
    go_quiet (exact Calls.quiet_of (HCo.out _))
    have HO2' := Lib.hid (HO2.out.drewN nq)
    have HE2' := Lib.hid (blk_drewN HE2.out nq)
    clear e0 e1 e2 e3 e4 e5 e6 e7 e8 e9 e10 e11 e12 ef el c0 c4 cl HO2 HE2
    generalize hWW : World.drewN _ nq = w3 at HO2' HE2' ⊢
    clear hWW
    have HO2 := HO2'
    have HE2 := HE2'
    clear HO2' HE2'
    obtain ⟨e0, e1, e2, e3, e4, e5, e6, e7, e8, e9, e10, e11, e12, ef, el⟩ := ev_cells HE2.out
    go_upto_region 8 with fail
    generalize decide (b.high < e.id) = ab at *
    generalize decide (b.cap ≤ (b.count : Int)) = fu at *
    generalize hagn : (decide (r.typ = 5) && decide (0 < b.sells.length)) = ag at Hag
    go_cut [11, 57] from 11 to 142 (fun v11 v57 wc => v11 = .bool false ∧ v57 = .int .i64 e.code ∧ Hid (Only Nil w wc) ∧ Hid (wc.heap[w.heap.size]? = some (.cells e.row tEvt (0, 0))))
    case first =>
      go_wp2
      go_meet
      case rel => exact ⟨rfl, rfl, HO2, HE2⟩
    case rest =>
    obtain ⟨rfl, rfl, HO3, HE3⟩ := hcut
    clear e0 e1 e2 e3 e4 e5 e6 e7 e8 e9 e10 e11 e12 ef el HO2 HE2
    have HO2 := HO3
    have HE2 := HE3
    clear HO3 HE3
    obtain ⟨e0, e1, e2, e3, e4, e5, e6, e7, e8, e9, e10, e11, e12, ef, el⟩ := ev_cells HE2.out
    go_step
    go_cut [11] from 11 to 142 (fun v11 wc => v11 = .bool (rejOkB e true ab fu (decide (0 < b.count)) ag) ∧ Hid (Only Nil w wc))
    case first =>
      rcases code_ways e.code with hk | hk | hk | hk | hk | hk | hk | hk | hk | hk | hk
      · as_aux_lemma =>
          have k90 : (e.code == 90) = true := by simp; omega
          have Hk := Lib.hid hk
          clear hk
          go_wp2
          go_meet
          case rel => exact ⟨by have hk := Hk.out; simp [rejOkB, hk, tzd], HO2⟩
      · as_aux_lemma =>
          have k90 : (e.code == 90) = false := by simp; omega
          have k91 : (e.code == 91) = true := by simp; omega
          have Hk := Lib.hid hk
          clear hk
          go_wp2
          go_meet
          case rel => exact ⟨by have hk := Hk.out; simp [rejOkB, hk, tzd], HO2⟩
      · as_aux_lemma =>
          have k90 : (e.code == 90) = false := by simp; omega
          have k91 : (e.code == 91) = false := by simp; omega
          have k92 : (e.code == 92) = true := by simp; omega
          have Hk := Lib.hid hk
          clear hk
          go_wp2
          go_meet
          case rel => exact ⟨by have hk := Hk.out; simp [rejOkB, hk, tzd], HO2⟩
      · as_aux_lemma =>
          have k90 : (e.code == 90) = false := by simp; omega
          have k91 : (e.code == 91) = false := by simp; omega
          have k92 : (e.code == 92) = false := by simp; omega
          have k93 : (e.code == 93) = true := by simp; omega
          have Hk := Lib.hid hk
          clear hk
          go_wp2
          go_meet
          case rel => exact ⟨by have hk := Hk.out; simp [rejOkB, hk, tzd], HO2⟩
      · as_aux_lemma =>
          have k90 : (e.code == 90) = false := by simp; omega
          have k91 : (e.code == 91) = false := by simp; omega
          have k92 : (e.code == 92) = false := by simp; omega
          have k93 : (e.code == 93) = false := by simp; omega
          have k94 : (e.code == 94) = true := by simp; omega
          have Hk := Lib.hid hk
          clear hk
          go_wp2
          go_meet
          case rel => exact ⟨by have hk := Hk.out; simp [rejOkB, hk, tzd], HO2⟩
      · as_aux_lemma =>
          have k90 : (e.code == 90) = false := by simp; omega
          have k91 : (e.code == 91) = false := by simp; omega
          have k92 : (e.code == 92) = false := by simp; omega
          have k93 : (e.code == 93) = false := by simp; omega
          have k94 : (e.code == 94) = false := by simp; omega
          have k95 : (e.code == 95) = true := by simp; omega
          have Hk := Lib.hid hk
          clear hk
          go_wp2
          go_meet
          case rel => exact ⟨by have hk := Hk.out; simp [rejOkB, hk, tzd], HO2⟩
      · as_aux_lemma =>
          have k90 : (e.code == 90) = false := by simp; omega
          have k91 : (e.code == 91) = false := by simp; omega
          have k92 : (e.code == 92) = false := by simp; omega
          have k93 : (e.code == 93) = false := by simp; omega
          have k94 : (e.code == 94) = false := by simp; omega
          have k95 : (e.code == 95) = false := by simp; omega
          have k96 : (e.code == 96) = true := by simp; omega
          have Hk := Lib.hid hk
          clear hk
          go_wp2
          go_meet
          case rel => exact ⟨by have hk := Hk.out; simp [rejOkB, hk, tzd], HO2⟩
      · as_aux_lemma =>
          have k90 : (e.code == 90) = false := by simp; omega
          have k91 : (e.code == 91) = false := by simp; omega
          have k92 : (e.code == 92) = false := by simp; omega
          have k93 : (e.code == 93) = false := by simp; omega
          have k94 : (e.code == 94) = false := by simp; omega
          have k95 : (e.code == 95) = false := by simp; omega
          have k96 : (e.code == 96) = false := by simp; omega
          have k97 : (e.code == 97) = true := by simp; omega
          have Hk := Lib.hid hk
          clear hk
          cases ab with
          | false =>
            go_wp2
            go_meet
            case rel => exact ⟨by have hk := Hk.out; simp [rejOkB, hk, tzd], HO2⟩
          | true =>
            go_wp2
            go_meet
            case rel => exact ⟨by have hk := Hk.out; simp [rejOkB, hk, tzd], HO2⟩
      · as_aux_lemma =>
          have k90 : (e.code == 90) = false := by simp; omega
          have k91 : (e.code == 91) = false := by simp; omega
          have k92 : (e.code == 92) = false := by simp; omega
          have k93 : (e.code == 93) = false := by simp; omega
          have k94 : (e.code == 94) = false := by simp; omega
          have k95 : (e.code == 95) = false := by simp; omega
          have k96 : (e.code == 96) = false := by simp; omega
          have k97 : (e.code == 97) = false := by simp; omega
          have k98 : (e.code == 98) = true := by simp; omega
          have Hk := Lib.hid hk
          clear hk
          go_wp2
          go_meet
          case rel => exact ⟨by have hk := Hk.out; simp [rejOkB, hk, tzd], HO2⟩
      · as_aux_lemma =>
          have k90 : (e.code == 90) = false := by simp; omega
          have k91 : (e.code == 91) = false := by simp; omega
          have k92 : (e.code == 92) = false := by simp; omega
          have k93 : (e.code == 93) = false := by simp; omega
          have k94 : (e.code == 94) = false := by simp; omega
          have k95 : (e.code == 95) = false := by simp; omega
          have k96 : (e.code == 96) = false := by simp; omega
          have k97 : (e.code == 97) = false := by simp; omega
          have k98 : (e.code == 98) = false := by simp; omega
          have k99 : (e.code == 99) = true := by simp; omega
          have hok : rejOkB e true ab fu (decide (0 < b.count)) ag = (ab && ((false && decide (0 < b.count) && !fu) || ag)) := by simp [rejOkB, hk, tzd]
          have Hk := Lib.hid hk
          clear hk
          go_upto_region 25 with fail
          go_cut [12] from 12 to 142 (fun v12 wd => v12 = .bool (false && decide (0 < b.count) && !fu) ∧ Hid (Only Nil w wd) ∧ Hid (wd.heap[w.heap.size]? = some (.cells e.row tEvt (0, 0))))
          case first =>
            go_wp2
            go_meet
            case rel => exact ⟨by simp, HO2, HE2⟩
          case rest =>
            obtain ⟨rfl, HO3, HE3⟩ := hcut
            clear e0 e1 e2 e3 e4 e5 e6 e7 e8 e9 e10 e11 e12 ef el HO2 HE2
            have HO2 := HO3
            have HE2 := HE3
            clear HO3 HE3
            obtain ⟨e0, e1, e2, e3, e4, e5, e6, e7, e8, e9, e10, e11, e12, ef, el⟩ := ev_cells HE2.out
            go_upto_region 26 with fail
            go_cut [13] from 13 to 142 (fun v13 wd => v13 = .bool ag ∧ Hid (Only Nil w wd) ∧ Hid (wd.heap[w.heap.size]? = some (.cells e.row tEvt (0, 0))))
            case first =>
              have hX := HX.out.nil HO2.out
              have cs := blk_cell hX.blk 2
              have co := blk_cell hX.blk 3
              have cl := blk_lt hX.blk
              simp only [List.getElem?_toArray, List.getElem?_cons_zero, List.getElem?_cons_succ] at cs co
              have q2 := row_at hX.r1 (i := i) (r := r) Hd.out 2 (by omega)
              simp only [Rs.cells, List.getElem?_cons_zero, List.getElem?_cons_succ] at q2
              clear hX
              have hdo : decide (0 < (b.sells.length : Int)) = decide (0 < b.sells.length) := by simp
              have ht5 : (r.typ == 5) = decide (r.typ = 5) := by by_cases q : r.typ = 5 <;> simp [q]
              subst hagn
              cases hq : decide (0 < b.sells.length) <;> rw [hq] at hdo <;> cases hr : decide (r.typ = 5) <;> rw [hr] at ht5
              all_goals
                go_wp2
                go_meet
                case rel => exact ⟨by first | (rw [hr, hq]; rfl) | rfl | simp, HO2, HE2⟩
            case rest =>
              obtain ⟨rfl, HO3, HE3⟩ := hcut
              clear e0 e1 e2 e3 e4 e5 e6 e7 e8 e9 e10 e11 e12 ef el HO2 HE2
              have HO2 := HO3
              have HE2 := HE3
              clear HO3 HE3
              obtain ⟨e0, e1, e2, e3, e4, e5, e6, e7, e8, e9, e10, e11, e12, ef, el⟩ := ev_cells HE2.out
              clear e0 e1 e2 e3 e4 e5 e6 e7 e8 e9 e10 e11 e12 ef el
              generalize (false && decide (0 < b.count) && !fu) = x12 at hok ⊢
              cases ab <;> cases x12 <;> cases ag
              all_goals
                go_wp2
                go_meet
                case rel => exact ⟨by rw [hok]; rfl, HO2⟩
      · as_aux_lemma =>
          have k90 : (e.code == 90) = false := by simp; omega
          have k91 : (e.code == 91) = false := by simp; omega
          have k92 : (e.code == 92) = false := by simp; omega
          have k93 : (e.code == 93) = false := by simp; omega
          have k94 : (e.code == 94) = false := by simp; omega
          have k95 : (e.code == 95) = false := by simp; omega
          have k96 : (e.code == 96) = false := by simp; omega
          have k97 : (e.code == 97) = false := by simp; omega
          have k98 : (e.code == 98) = false := by simp; omega
          have k99 : (e.code == 99) = false := by simp; omega
          have Hk := Lib.hid hk
          clear hk
          go_wp2
          go_meet
          case rel => exact ⟨by obtain ⟨q0, q1, q2, q3, q4, q5, q6, q7, q8, q9⟩ := Hk.out; simp [rejOkB, tzd, q0, q1, q2, q3, q4, q5, q6, q7, q8, q9], HO2⟩
    case rest =>
      obtain ⟨rfl, HO⟩ := hcut
      have HAn : Hid (rejected b e = if rejOkB e true ab fu (decide (0 < b.count)) ag then 0 else 195) := Lib.hid (by rw [HRj.out, Hag.out])
      generalize rejOkB e true ab fu (decide (0 < b.count)) ag = ok at *
      cases ok with
      | false =>
        go_wp2
        go_ret
        exact ⟨by rw [HAn.out]; rfl, HO.out⟩
      | true =>
        go_wp2
        go_ret
        exact ⟨by rw [HAn.out]; rfl, HO.out⟩

end Ck
end Go.Proofs.Ytcnkbhgdcfckoaa
