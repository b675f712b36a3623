/- The walk of canCome. -/
import Derived.Test.YtcnkbhgdcfckoaaMl
set_option linter.unusedVariables false
set_option linter.unusedSimpArgs false
namespace Go.Proofs.Ytcnkbhgdcfckoaa
open Go.RowKit
namespace Ck
def sideBad (e : Ev) : Bool := (e.side != 1) && (e.side != 2)
def typBad (e : Ev) : Bool := decide (e.typ < 1) || decide (5 < e.typ)
def priceBad (e : Ev) : Bool := (decide (e.price < 0) || decide (262144 ≤ e.price)) || ((e.typ == 2) && (e.price != 0))
def qtyBad (e : Ev) (k : Bool) : Bool := ((decide (e.qty < 1) || decide (4294967295 < e.qty)) || decide (e.qty < e.peak)) || ((e.peak != 0) && (!k || decide (256 * e.peak < e.qty)))
def fullBad (b : Bk) (k instead : Bool) : Bool := (k && !instead) && decide (b.cap ≤ (b.count : Int))
def free (b : Bk) (e : Ev) : Bool := (e.typ != 5) || (match b.side (far e.side) with | [] => true | p :: _ => !meets e.side e.typ e.price p.price)
theorem ways7 (a b c d k f : Bool) : a = true ∨ (a = false ∧ b = true) ∨ (a = false ∧ b = false ∧ c = true) ∨ (a = false ∧ b = false ∧ c = false ∧ d = false) ∨ (a = false ∧ b = false ∧ c = false ∧ d = true ∧ k = false) ∨
    (a = false ∧ b = false ∧ c = false ∧ d = true ∧ k = true ∧ f = true) ∨ (a = false ∧ b = false ∧ c = false ∧ d = true ∧ k = true ∧ f = false) := by
  cases a <;> cases b <;> cases c <;> cases d <;> cases k <;> cases f <;> simp
theorem canCome_eq (b : Bk) (e : Ev) (i : Bool) : canCome b e i = (decide (e = evAck e) && (!sideBad e && (!typBad e && (!priceBad e && (!qtyBad e (keeps e.typ) && (!decide (e.id ≤ b.high) && (!fullBad b (keeps e.typ) i && free b e))))))) := by
  have h1 : decide (e.side = 1 ∨ e.side = 2) = !sideBad e := by
    unfold sideBad
    by_cases h1 : e.side = 1 <;> by_cases h2 : e.side = 2 <;> simp [h1, h2]
  have h2 : decide (1 ≤ e.typ ∧ e.typ ≤ 5) = !typBad e := by
    unfold typBad
    by_cases h1 : e.typ < 1 <;> by_cases h2 : 5 < e.typ <;> simp [h1, h2] <;> omega
  have h3 : decide (0 ≤ e.price ∧ e.price < 262144 ∧ (e.typ = 2 → e.price = 0)) = !priceBad e := by
    unfold priceBad
    by_cases h1 : e.price < 0
    · have : ¬ (0 ≤ e.price) := by omega
      simp [h1, this]
    · by_cases h2 : 262144 ≤ e.price
      · have : ¬ (e.price < 262144) := by omega
        simp [h2, this]
      · have h3 : 0 ≤ e.price := by omega
        have h4 : e.price < 262144 := by omega
        by_cases h5 : e.typ = 2 <;> by_cases h6 : e.price = 0 <;> simp [h1, h2, h3, h4, h5, h6]
  have h4 : decide (1 ≤ e.qty ∧ e.qty ≤ 4294967295 ∧ e.peak ≤ e.qty ∧ (e.peak ≠ 0 → keeps e.typ = true ∧ e.qty ≤ 256 * e.peak)) = !qtyBad e (keeps e.typ) := by
    unfold qtyBad
    by_cases h1 : e.qty < 1
    · have : ¬ (1 ≤ e.qty) := by omega
      simp [h1, this]
    · by_cases h2 : 4294967295 < e.qty
      · have : ¬ (e.qty ≤ 4294967295) := by omega
        simp [h2, this]
      · by_cases h3 : e.qty < e.peak
        · have : ¬ (e.peak ≤ e.qty) := by omega
          simp [h3, this]
        · have g1 : 1 ≤ e.qty := by omega
          have g2 : e.qty ≤ 4294967295 := by omega
          have g3 : e.peak ≤ e.qty := by omega
          by_cases h4 : e.peak = 0
          · have k1 : 0 ≤ e.qty := by omega
            have k2 : ¬ e.qty < 0 := by omega
            simp [h1, h2, g1, g2, h4, k1, k2]
          · by_cases h5 : 256 * e.peak < e.qty
            · have g5 : ¬ (e.qty ≤ 256 * e.peak) := by omega
              cases keeps e.typ <;> simp [h1, h2, h3, g1, g2, g3, h4, h5, g5]
            · have g5 : e.qty ≤ 256 * e.peak := by omega
              cases keeps e.typ <;> simp [h1, h2, h3, g1, g2, g3, h4, h5, g5]
  have h5 : decide (b.high < e.id) = !decide (e.id ≤ b.high) := by
    by_cases h : e.id ≤ b.high
    · have : ¬ (b.high < e.id) := by omega
      simp [h, this]
    · have : b.high < e.id := by omega
      simp [h, this]
  have h6 : decide (keeps e.typ = true → i = false → (b.count : Int) < b.cap) = !fullBad b (keeps e.typ) i := by
    unfold fullBad
    by_cases h : b.cap ≤ (b.count : Int)
    · have : ¬ ((b.count : Int) < b.cap) := by omega
      cases keeps e.typ <;> cases i <;> simp [h, this]
    · have : (b.count : Int) < b.cap := by omega
      cases keeps e.typ <;> cases i <;> simp [h, this]
  unfold canCome
  rw [h1, h2, h3, h4, h5, h6]
  have hq : decide (e.typ ≠ 5) = (e.typ != 5) := by by_cases h : e.typ = 5 <;> simp [h]
  unfold free
  rw [hq]
  cases hd : b.side (far e.side) <;> simp [Bool.and_assoc]
set_option maxHeartbeats 3200000 in
set_option maxRecDepth 100000 in
theorem canCome_any (C : Nat) (b : Bk) (e : Ev) (i : Bool) (v1 v2 p6 p7 : Value) (w : World) (h : BkRep w C b v1 v2 p6 p7) (hb : b.ok) (hw : e.wf) :
    Calls Try.prog 47 #[.pointer (some ⟨C, 0, none⟩), .agg e.row, .bool i] w fun r w' => r = .returned (.bool (canCome b e i)) ∧ Only Nil w w' := by
  rw [canCome_eq]
  have hroom := hb.room
  have HX := Lib.hid h
  have HCt := Lib.hid (fun W (ho : Only Nil w W) => count_any C b v1 v2 p6 p7 W (h.nil ho) (by omega))
  have HE0 := Lib.hid (blk_new w (.cells e.row tEvt))
  have HO0 := Lib.hid ((Only.refl Nil w).alloc (.cells e.row tEvt))
  have hid0 := hw.id
  have hpk0 := hw.peak
  have hqt0 := hw.qty
  clear h hb hw
  generalize hans : (decide (e = evAck e) && (!sideBad e && (!typBad e && (!priceBad e && (!qtyBad e (keeps e.typ) && (!decide (e.id ≤ b.high) && (!fullBad b (keeps e.typ) i && free b e))))))) = ans
  have HA := Lib.hid hans
  clear hans
  go_enter Try.func47, Try.ntmps47
  unfold Ev.row
  go_upto_region 1 with fail
  generalize hW : World.alloc w _ = W1
  have hW' : w.alloc (.cells e.row tEvt) = W1 := hW
  rw [hW'] at HE0 HO0
  clear hW hW'
  go_cut [29] from 9 to 160 (fun v29 wc => v29 = .bool (!decide (e = evAck e)) ∧ Hid (Only Nil w wc) ∧ Hid (wc.heap[w.heap.size]? = some (.cells e.row tEvt (0, 0))))
  case first =>
    obtain ⟨e0, e1, e2, e3, e4, e5, e6, e7, e8, e9, e10, e11, e12, ef, el⟩ := ev_cells HE0.out
    go_wp2_with (refine wpList_ev_neq rfl (.tmp 9) (.tmp 28) rfl e (evAck e) rfl rfl ?_)
    go_meet
    case rel => exact ⟨rfl, HO0, HE0⟩
  case rest =>
    as_aux_lemma =>
    obtain ⟨rfl, HO, HE⟩ := hcut
    clear HO0 HE0
    cases hq : decide (e = evAck e) with
    | false =>
      have HAn : Hid (ans = false) := Lib.hid (by rw [← HA.out, hq]; rfl)
      simp only [Bool.not_false]
      obtain ⟨e0, e1, e2, e3, e4, e5, e6, e7, e8, e9, e10, e11, e12, ef, el⟩ := ev_cells HE.out
      go_wp2
      go_ret
      exact ⟨by rw [HAn.out]; rfl, HO.out⟩
    | true =>
      replace HA : Hid ((!sideBad e && (!typBad e && (!priceBad e && (!qtyBad e (keeps e.typ) && (!decide (e.id ≤ b.high) && (!fullBad b (keeps e.typ) i && free b e)))))) = ans) := Lib.hid (by rw [← HA.out, hq]; rfl)
      simp only [Bool.not_true]
      obtain ⟨e0, e1, e2, e3, e4, e5, e6, e7, e8, e9, e10, e11, e12, ef, el⟩ := ev_cells HE.out
      go_upto_region 3 with fail
      go_cut [7] from 9 to 160 (fun v7 wd => v7 = .bool (keeps e.typ) ∧ Hid (Only Nil w wd) ∧ Hid (wd.heap[w.heap.size]? = some (.cells e.row tEvt (0, 0))))
      case first =>
        have hk : ((e.typ == 1) = true) ∨ ((e.typ == 1) = false ∧ (e.typ == 5) = true) ∨ ((e.typ == 1) = false ∧ (e.typ == 5) = false) := by
          by_cases h1 : e.typ = 1 <;> by_cases h2 : e.typ = 5 <;> simp [h1, h2]
        rcases hk with k1 | ⟨k1, k2⟩ | ⟨k1, k2⟩
        all_goals
          go_wp2
          go_meet
          case rel => exact ⟨by first | simp [keeps, k1, k2] | simp [keeps, k1], HO, HE⟩
      case rest =>
        as_aux_lemma =>
        obtain ⟨rfl, HO2, HE2⟩ := hcut
        clear e0 e1 e2 e3 e4 e5 e6 e7 e8 e9 e10 e11 e12 ef el HO HE
        have HO := HO2
        have HE := HE2
        clear HO2 HE2
        obtain ⟨e0, e1, e2, e3, e4, e5, e6, e7, e8, e9, e10, e11, e12, ef, el⟩ := ev_cells HE.out
        go_upto_region 4 with fail
        go_cut [38] from 9 to 160 (fun v38 wd => v38 = .bool (sideBad e) ∧ Hid (Only Nil w wd) ∧ Hid (wd.heap[w.heap.size]? = some (.cells e.row tEvt (0, 0))))
        case first =>
          have hk : ((e.side != 1) = false) ∨ ((e.side != 1) = true ∧ (e.side != 2) = false) ∨ ((e.side != 1) = true ∧ (e.side != 2) = true) := by
            by_cases h1 : e.side = 1 <;> by_cases h2 : e.side = 2 <;> simp [h1, h2]
          rcases hk with k1 | ⟨k1, k2⟩ | ⟨k1, k2⟩
          all_goals
            go_wp2
            go_meet
            case rel => exact ⟨by first | simp [sideBad, k1, k2] | simp [sideBad, k1], HO, HE⟩
        case rest =>
          as_aux_lemma =>
          obtain ⟨rfl, HO2, HE2⟩ := hcut
          clear e0 e1 e2 e3 e4 e5 e6 e7 e8 e9 e10 e11 e12 ef el HO HE
          have HO := HO2
          have HE := HE2
          clear HO2 HE2
          obtain ⟨e0, e1, e2, e3, e4, e5, e6, e7, e8, e9, e10, e11, e12, ef, el⟩ := ev_cells HE.out
          cases hq : sideBad e with
          | true =>
            have HAn : Hid (ans = false) := Lib.hid (by rw [← HA.out, hq]; simp)
            go_wp2
            go_ret
            exact ⟨by rw [HAn.out]; rfl, HO.out⟩
          | false =>
            replace HA : Hid ((!typBad e && (!priceBad e && (!qtyBad e (keeps e.typ) && (!decide (e.id ≤ b.high) && (!fullBad b (keeps e.typ) i && free b e))))) = ans) := Lib.hid (by rw [← HA.out, hq]; simp)
            have Hsd : Hid (e.side = 1 ∨ e.side = 2) := Lib.hid (by
              unfold sideBad at hq
              by_cases h1 : e.side = 1
              · exact .inl h1
              · by_cases h2 : e.side = 2
                · exact .inr h2
                · simp [h1, h2] at hq)
            go_upto_region 5 with fail
            go_cut [38] from 9 to 160 (fun v38 wd => v38 = .bool (typBad e) ∧ Hid (Only Nil w wd) ∧ Hid (wd.heap[w.heap.size]? = some (.cells e.row tEvt (0, 0))))
            case first =>
              have hk : (decide (e.typ < 1) = true) ∨ (decide (e.typ < 1) = false ∧ decide (5 < e.typ) = true) ∨ (decide (e.typ < 1) = false ∧ decide (5 < e.typ) = false) := by
                by_cases h1 : e.typ < 1 <;> by_cases h2 : 5 < e.typ <;> simp [h1, h2]
              rcases hk with k1 | ⟨k1, k2⟩ | ⟨k1, k2⟩
              all_goals
                go_wp2
                go_meet
                case rel => exact ⟨by first | simp [typBad, k1, k2] | simp [typBad, k1], HO, HE⟩
            case rest =>
              as_aux_lemma =>
              obtain ⟨rfl, HO2, HE2⟩ := hcut
              clear e0 e1 e2 e3 e4 e5 e6 e7 e8 e9 e10 e11 e12 ef el HO HE
              have HO := HO2
              have HE := HE2
              clear HO2 HE2
              obtain ⟨e0, e1, e2, e3, e4, e5, e6, e7, e8, e9, e10, e11, e12, ef, el⟩ := ev_cells HE.out
              cases hq : typBad e with
              | true =>
                have HAn : Hid (ans = false) := Lib.hid (by rw [← HA.out, hq]; simp)
                go_wp2
                go_ret
                exact ⟨by rw [HAn.out]; rfl, HO.out⟩
              | false =>
                replace HA : Hid ((!priceBad e && (!qtyBad e (keeps e.typ) && (!decide (e.id ≤ b.high) && (!fullBad b (keeps e.typ) i && free b e)))) = ans) := Lib.hid (by rw [← HA.out, hq]; simp)
                go_upto_region 7 with fail
                go_cut [55] from 9 to 160 (fun v55 wd => v55 = .bool (priceBad e) ∧ Hid (Only Nil w wd) ∧ Hid (wd.heap[w.heap.size]? = some (.cells e.row tEvt (0, 0))))
                case first =>
                  have hk : (decide (e.price < 0) = true) ∨ (decide (e.price < 0) = false ∧ decide (262144 ≤ e.price) = true) ∨ (decide (e.price < 0) = false ∧ decide (262144 ≤ e.price) = false ∧ (e.typ == 2) = false) ∨ (decide (e.price < 0) = false ∧ decide (262144 ≤ e.price) = false ∧ (e.typ == 2) = true ∧ (e.price != 0) = true) ∨ (decide (e.price < 0) = false ∧ decide (262144 ≤ e.price) = false ∧ (e.typ == 2) = true ∧ (e.price != 0) = false) := by
                    by_cases h1 : e.price < 0 <;> by_cases h2 : 262144 ≤ e.price <;> by_cases h3 : e.typ = 2 <;> by_cases h4 : e.price = 0 <;> simp [h1, h2, h3, h4]
                  rcases hk with k1 | ⟨k1, k2⟩ | ⟨k1, k2, k3⟩ | ⟨k1, k2, k3, k4⟩ | ⟨k1, k2, k3, k4⟩
                  all_goals
                    go_wp2
                    go_meet
                    case rel => exact ⟨by first | simp [priceBad, k1, k2, k3, k4] | simp [priceBad, k1, k2, k3] | simp [priceBad, k1, k2] | simp [priceBad, k1], HO, HE⟩
                case rest =>
                  as_aux_lemma =>
                  obtain ⟨rfl, HO2, HE2⟩ := hcut
                  clear e0 e1 e2 e3 e4 e5 e6 e7 e8 e9 e10 e11 e12 ef el HO HE
                  have HO := HO2
                  have HE := HE2
                  clear HO2 HE2
                  obtain ⟨e0, e1, e2, e3, e4, e5, e6, e7, e8, e9, e10, e11, e12, ef, el⟩ := ev_cells HE.out
                  cases hq : priceBad e with
                  | true =>
                    have HAn : Hid (ans = false) := Lib.hid (by rw [← HA.out, hq]; simp)
                    go_wp2
                    go_ret
                    exact ⟨by rw [HAn.out]; rfl, HO.out⟩
                  | false =>
                    replace HA : Hid ((!qtyBad e (keeps e.typ) && (!decide (e.id ≤ b.high) && (!fullBad b (keeps e.typ) i && free b e))) = ans) := Lib.hid (by rw [← HA.out, hq]; simp)
                    go_upto_region 9 with fail
                    go_cut [7, 74] from 9 to 160 (fun v7 v74 wd => v7 = .bool (keeps e.typ) ∧ v74 = .bool (qtyBad e (keeps e.typ)) ∧ Hid (Only Nil w wd) ∧ Hid (wd.heap[w.heap.size]? = some (.cells e.row tEvt (0, 0))))
                    case first =>
                      have hk := ways7 (decide (e.qty < 1)) (decide (4294967295 < e.qty)) (decide (e.qty < e.peak)) (e.peak != 0) (keeps e.typ) (decide (256 * e.peak < e.qty))
                      have hwr : decide (4294967295 < e.qty) = false → decide (e.qty < e.peak) = false → IntKind.u64.wrap (256 * e.peak) = 256 * e.peak := fun g1 g2 => by
                        have g1' := of_decide_eq_false g1
                        have g2' := of_decide_eq_false g2
                        rw [IntKind.wrap_u64]; omega
                      rcases hk with k1 | ⟨k1, k2⟩ | ⟨k1, k2, k3⟩ | ⟨k1, k2, k3, k4⟩ | ⟨k1, k2, k3, k4, k5⟩ | ⟨k1, k2, k3, k4, k5, k6⟩ | ⟨k1, k2, k3, k4, k5, k6⟩
                      all_goals
                        try have hw := hwr k2 k3
                        clear hwr
                        go_wp2
                        go_meet
                        case rel => exact ⟨by first | rfl | (rw [k1]) | (rw [k5]), by first | simp [qtyBad, k1, k2, k3, k4, k5, k6] | simp [qtyBad, k1, k2, k3, k4, k5] | simp [qtyBad, k1, k2, k3, k4] | simp [qtyBad, k1, k2, k3] | simp [qtyBad, k1, k2] | simp [qtyBad, k1], HO, HE⟩
                    case rest =>
                      as_aux_lemma =>
                      obtain ⟨rfl, rfl, HO2, HE2⟩ := hcut
                      clear e0 e1 e2 e3 e4 e5 e6 e7 e8 e9 e10 e11 e12 ef el HO HE
                      have HO := HO2
                      have HE := HE2
                      clear HO2 HE2
                      obtain ⟨e0, e1, e2, e3, e4, e5, e6, e7, e8, e9, e10, e11, e12, ef, el⟩ := ev_cells HE.out
                      cases hq : qtyBad e (keeps e.typ) with
                      | true =>
                        have HAn : Hid (ans = false) := Lib.hid (by rw [← HA.out, hq]; simp)
                        go_wp2
                        go_ret
                        exact ⟨by rw [HAn.out]; rfl, HO.out⟩
                      | false =>
                        replace HA : Hid ((!decide (e.id ≤ b.high) && (!fullBad b (keeps e.typ) i && free b e)) = ans) := Lib.hid (by rw [← HA.out, hq]; simp)
                        go_upto_region 11 with fail
                        go_cut [107] from 9 to 160 (fun v107 wd => v107 = .bool (decide (e.id ≤ b.high)) ∧ Hid (Only Nil w wd) ∧ Hid (wd.heap[w.heap.size]? = some (.cells e.row tEvt (0, 0))))
                        case first =>
                          have hX := HX.out.nil HO.out
                          have c4 := blk_cell hX.blk 4
                          have cl := blk_lt hX.blk
                          simp only [List.getElem?_toArray, List.getElem?_cons_zero, List.getElem?_cons_succ] at c4
                          clear hX
                          go_quiet (fail)
                          go_wp2
                          go_meet
                          case rel => exact ⟨rfl, Lib.hid (HO.out.drewN _), Lib.hid (blk_drewN HE.out _)⟩
                        case rest =>
                          as_aux_lemma =>
                          obtain ⟨rfl, HO2, HE2⟩ := hcut
                          clear e0 e1 e2 e3 e4 e5 e6 e7 e8 e9 e10 e11 e12 ef el HO HE
                          have HO := HO2
                          have HE := HE2
                          clear HO2 HE2
                          obtain ⟨e0, e1, e2, e3, e4, e5, e6, e7, e8, e9, e10, e11, e12, ef, el⟩ := ev_cells HE.out
                          cases hq : decide (e.id ≤ b.high) with
                          | true =>
                            have HAn : Hid (ans = false) := Lib.hid (by rw [← HA.out, hq]; simp)
                            go_wp2
                            go_ret
                            exact ⟨by rw [HAn.out]; rfl, HO.out⟩
                          | false =>
                            replace HA : Hid ((!fullBad b (keeps e.typ) i && free b e) = ans) := Lib.hid (by rw [← HA.out, hq]; simp)
                            go_upto_region 13 with fail
                            go_cut [7, 115] from 9 to 160 (fun v7 v115 wd => v7 = .bool (keeps e.typ) ∧ v115 = .bool (fullBad b (keeps e.typ) i) ∧ Hid (Only Nil w wd) ∧ Hid (wd.heap[w.heap.size]? = some (.cells e.row tEvt (0, 0))))
                            case first =>
                              have hX := HX.out.nil HO.out
                              have c0 := blk_cell hX.blk 0
                              have cl := blk_lt hX.blk
                              simp only [List.getElem?_toArray, List.getElem?_cons_zero, List.getElem?_cons_succ] at c0
                              clear hX
                              have HCo := Lib.hid (fun k => HCt.out _ (HO.out.drewN k))
                              clear HA
                              generalize hkb : keeps e.typ = kb
                              have HKb := Lib.hid hkb
                              clear hkb
                              cases kb with
                              | false =>
                                go_quiet (fail)
                                go_wp2
                                go_meet
                                case rel => exact ⟨by rw [HKb.out], by rw [HKb.out]; rfl, Lib.hid (HO.out.drewN _), Lib.hid (blk_drewN HE.out _)⟩
                              | true =>
                                cases i with
                                | true =>
                                  go_quiet (fail)
                                  go_wp2
                                  go_meet
                                  case rel => exact ⟨by rw [HKb.out], by rw [HKb.out]; rfl, Lib.hid (HO.out.drewN _), Lib.hid (blk_drewN HE.out _)⟩
                                | false =>
                                  go_quiet (exact Calls.quiet_of (HCo.out _))
                                  go_wp2
                                  go_meet
                                  case rel => exact ⟨by rw [HKb.out], by rw [HKb.out]; rfl, Lib.hid (HO.out.drewN _), Lib.hid (blk_drewN HE.out _)⟩
                            case rest =>
                              as_aux_lemma =>
                              obtain ⟨rfl, rfl, HO2, HE2⟩ := hcut
                              clear e0 e1 e2 e3 e4 e5 e6 e7 e8 e9 e10 e11 e12 ef el HO HE
                              have HO := HO2
                              have HE := HE2
                              clear HO2 HE2
                              obtain ⟨e0, e1, e2, e3, e4, e5, e6, e7, e8, e9, e10, e11, e12, ef, el⟩ := ev_cells HE.out
                              cases hq : fullBad b (keeps e.typ) i with
                              | true =>
                                have HAn : Hid (ans = false) := Lib.hid (by rw [← HA.out, hq]; simp)
                                go_wp2
                                go_ret
                                exact ⟨by rw [HAn.out]; rfl, HO.out⟩
                              | false =>
                                replace HA : Hid (free b e = ans) := Lib.hid (by rw [← HA.out, hq]; simp)
                                have hsd : e.side = 1 ∨ e.side = 2 := Hsd.out
                                clear Hsd
                                rcases hsd with hs | hs
                                · have hfar : far e.side = 2 := by rw [hs]; rfl
                                  have hX := HX.out.nil HO.out
                                  have cs := blk_cell hX.blk 3
                                  have cl := blk_lt hX.blk
                                  have hR := hX.r2
                                  simp only [List.getElem?_toArray, List.getElem?_cons_zero, List.getElem?_cons_succ] at cs
                                  have hw2 : IntKind.i64.wrap (2 - 1) = 1 := by rw [IntKind.wrap_i64]; omega
                                  rw [hs] at e6
                                  have Hs := Lib.hid hs
                                  obtain ⟨A, cc, hA, _⟩ := own_slice hR
                                  rw [hA] at cs hR
                                  have HR := Lib.hid hR
                                  clear hX hR hs hA
                                  cases ht : (e.typ != 5) with
                                  | true =>
                                    have HAn : Hid (ans = true) := Lib.hid (by rw [← HA.out]; unfold free; rw [ht]; rfl)
                                    go_upto_region 15 with fail
                                    go_quiet (fail)
                                    go_upto_region 16 with fail
                                    go_quiet (fail)
                                    go_wp2
                                    go_ret
                                    exact ⟨by rw [HAn.out]; rfl, (HO.out.drewN _).drewN _⟩
                                  | false =>
                                    cases hl : b.sells with
                                    | nil =>
                                      have HAn : Hid (ans = true) := Lib.hid (by
                                        have hd : b.side (far e.side) = [] := by rw [hfar]; exact hl
                                        rw [← HA.out]; unfold free; rw [hd, ht]; rfl)
                                      rw [hl] at cs
                                      simp only [List.length_nil] at cs
                                      clear hl hfar
                                      go_upto_region 15 with fail
                                      go_quiet (fail)
                                      go_upto_region 16 with fail
                                      go_quiet (fail)
                                      go_wp2
                                      go_ret
                                      exact ⟨by rw [HAn.out]; rfl, (HO.out.drewN _).drewN _⟩
                                    | cons p l =>
                                      have HAn : Hid (ans = !meets e.side e.typ e.price p.price) := Lib.hid (by
                                        have hd : b.side (far e.side) = p :: l := by rw [hfar]; exact hl
                                        rw [← HA.out]; unfold free; rw [hd, ht]; rfl)
                                      have HM := Lib.hid (fun W => (meets_any 1 e.typ e.price p.price W).mono (fun _ _ ⟨h1, h2⟩ => (⟨h1, h2.symm⟩ : _ ∧ _ = W)))
                                      rw [Hs.out] at HAn
                                      have hR := HR.out
                                      rw [hl] at hR cs
                                      obtain ⟨g, cp, e1, hg, _, hgm⟩ := own_row hR (by simp)
                                      injection e1 with e1 _ e1'
                                      subst e1
                                      subst e1'
                                      have q3 := row_at hR (i := 0) (r := p) rfl 3 (by omega)
                                      simp only [Rs.cells, Nat.zero_mul, Nat.zero_add, List.getElem?_cons_zero, List.getElem?_cons_succ] at q3
                                      have hn : 0 < (p :: l).length := by simp
                                      have hn0 : (((p :: l).length : Int) == 0) = false := by simp; omega
                                      generalize (p :: l).length = N at *
                                      have hni : (0 : Int) < (N : Int) := by omega
                                      clear hR HR hl hfar
                                      go_upto_region 15 with fail
                                      go_quiet (fail)
                                      have HOz := Lib.hid (HO.out.drewN nq)
                                      have HEz : Hid ((wc.drewN nq).heap[w.heap.size]? = some (.cells e.row tEvt (0, 0))) := Lib.hid (blk_drewN HE.out nq)
                                      have q3z : (wc.drewN nq).cell? ⟨g, 3, none⟩ = some (.int .i64 p.price) := q3
                                      have hgz : g < (wc.drewN nq).heap.size := hg
                                      generalize wc.drewN nq = wz at *
                                      clear e0 e1 e2 e3 e4 e5 e6 e7 e8 e9 e10 e11 e12 ef el q3 hg cs HE HO
                                      obtain ⟨e0, e1, e2, e3, e4, e5, e6, e7, e8, e9, e10, e11, e12, ef, el⟩ := ev_cells HEz.out
                                      rw [Hs.out] at e6
                                      go_upto_region 16 with fail
                                      go_quiet (refine Calls.quiet_of_same (HM.out _))
                                      go_wp2
                                      go_ret
                                      exact ⟨by rw [HAn.out]; rfl, HOz.out.drewN _⟩
                                · have hfar : far e.side = 1 := by rw [hs]; rfl
                                  have hX := HX.out.nil HO.out
                                  have cs := blk_cell hX.blk 2
                                  have cl := blk_lt hX.blk
                                  have hR := hX.r1
                                  simp only [List.getElem?_toArray, List.getElem?_cons_zero, List.getElem?_cons_succ] at cs
                                  have hw2 : IntKind.i64.wrap (2 - 2) = 0 := by rw [IntKind.wrap_i64]; omega
                                  rw [hs] at e6
                                  have Hs := Lib.hid hs
                                  obtain ⟨A, cc, hA, _⟩ := own_slice hR
                                  rw [hA] at cs hR
                                  have HR := Lib.hid hR
                                  clear hX hR hs hA
                                  cases ht : (e.typ != 5) with
                                  | true =>
                                    have HAn : Hid (ans = true) := Lib.hid (by rw [← HA.out]; unfold free; rw [ht]; rfl)
                                    go_upto_region 15 with fail
                                    go_quiet (fail)
                                    go_upto_region 16 with fail
                                    go_quiet (fail)
                                    go_wp2
                                    go_ret
                                    exact ⟨by rw [HAn.out]; rfl, (HO.out.drewN _).drewN _⟩
                                  | false =>
                                    cases hl : b.buys with
                                    | nil =>
                                      have HAn : Hid (ans = true) := Lib.hid (by
                                        have hd : b.side (far e.side) = [] := by rw [hfar]; exact hl
                                        rw [← HA.out]; unfold free; rw [hd, ht]; rfl)
                                      rw [hl] at cs
                                      simp only [List.length_nil] at cs
                                      clear hl hfar
                                      go_upto_region 15 with fail
                                      go_quiet (fail)
                                      go_upto_region 16 with fail
                                      go_quiet (fail)
                                      go_wp2
                                      go_ret
                                      exact ⟨by rw [HAn.out]; rfl, (HO.out.drewN _).drewN _⟩
                                    | cons p l =>
                                      have HAn : Hid (ans = !meets e.side e.typ e.price p.price) := Lib.hid (by
                                        have hd : b.side (far e.side) = p :: l := by rw [hfar]; exact hl
                                        rw [← HA.out]; unfold free; rw [hd, ht]; rfl)
                                      have HM := Lib.hid (fun W => (meets_any 2 e.typ e.price p.price W).mono (fun _ _ ⟨h1, h2⟩ => (⟨h1, h2.symm⟩ : _ ∧ _ = W)))
                                      rw [Hs.out] at HAn
                                      have hR := HR.out
                                      rw [hl] at hR cs
                                      obtain ⟨g, cp, e1, hg, _, hgm⟩ := own_row hR (by simp)
                                      injection e1 with e1 _ e1'
                                      subst e1
                                      subst e1'
                                      have q3 := row_at hR (i := 0) (r := p) rfl 3 (by omega)
                                      simp only [Rs.cells, Nat.zero_mul, Nat.zero_add, List.getElem?_cons_zero, List.getElem?_cons_succ] at q3
                                      have hn : 0 < (p :: l).length := by simp
                                      have hn0 : (((p :: l).length : Int) == 0) = false := by simp; omega
                                      generalize (p :: l).length = N at *
                                      have hni : (0 : Int) < (N : Int) := by omega
                                      clear hR HR hl hfar
                                      go_upto_region 15 with fail
                                      go_quiet (fail)
                                      have HOz := Lib.hid (HO.out.drewN nq)
                                      have HEz : Hid ((wc.drewN nq).heap[w.heap.size]? = some (.cells e.row tEvt (0, 0))) := Lib.hid (blk_drewN HE.out nq)
                                      have q3z : (wc.drewN nq).cell? ⟨g, 3, none⟩ = some (.int .i64 p.price) := q3
                                      have hgz : g < (wc.drewN nq).heap.size := hg
                                      generalize wc.drewN nq = wz at *
                                      clear e0 e1 e2 e3 e4 e5 e6 e7 e8 e9 e10 e11 e12 ef el q3 hg cs HE HO
                                      obtain ⟨e0, e1, e2, e3, e4, e5, e6, e7, e8, e9, e10, e11, e12, ef, el⟩ := ev_cells HEz.out
                                      rw [Hs.out] at e6
                                      go_upto_region 16 with fail
                                      go_quiet (refine Calls.quiet_of_same (HM.out _))
                                      go_wp2
                                      go_ret
                                      exact ⟨by rw [HAn.out]; rfl, HOz.out.drewN _⟩
end Ck
end Go.Proofs.Ytcnkbhgdcfckoaa
