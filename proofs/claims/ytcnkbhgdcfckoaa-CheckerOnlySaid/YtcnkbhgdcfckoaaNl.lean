/- The walk of the document's Refused. -/
import Derived.Test.YtcnkbhgdcfckoaaNk
set_option linter.unusedVariables false
set_option linter.unusedSimpArgs false
namespace Go.Proofs.Ytcnkbhgdcfckoaa
open Go.RowKit
namespace Ck
theorem findRV_eq (b : Bk) (id : Int) : ∃ (fr : Rs) (fs : Int) (ff : Bool), findRV (findR b id) = .tuple #[.agg fr.row, .int .i64 fs, .bool ff] ∧ ((ff = true ∧ findR b id = some (fr, fs) ∧ (fs = 1 ∨ fs = 2)) ∨ (ff = false ∧ findR b id = none)) := by
  have hside : ∀ r s, findR b id = some (r, s) → s = 1 ∨ s = 2 := by
    intro r s h
    unfold findR at h
    split at h
    · injection h with h; injection h with h1 h2; exact .inl h2.symm
    · split at h
      · injection h with h; injection h with h1 h2; exact .inr h2.symm
      · exact absurd h (by simp)
  cases h : findR b id with
  | none => exact ⟨zR, 0, false, rfl, .inr ⟨rfl, rfl⟩⟩
  | some q => obtain ⟨r, s⟩ := q; exact ⟨r, s, true, rfl, .inl ⟨rfl, rfl, hside r s h⟩⟩
theorem check_side {c : Cm} (h : checkR c = 0) (h1 : c.kind = 1) : c.side = 1 ∨ c.side = 2 := by
  unfold checkR at h
  rw [if_neg (by omega), if_neg (by omega), if_pos h1] at h
  by_cases q : c.side ≠ 1 ∧ c.side ≠ 2
  · rw [if_pos q] at h; omega
  · omega
/-- On the way through Refused: the boxes of the book and of the command. -/
structure RfW (w : World) (b : Bk) (v1 v2 : Value) (c : Cm) (W : World) : Prop where
  b : W.heap[w.heap.size]? = some (.cells (bkRow b v1 v2) tBk (0, 0))
  c : W.heap[w.heap.size + 1]? = some (.cells (cmRow c) tCm (0, 0))
  o : Only Nil w W
theorem RfW.nil {w W W1 : World} {b : Bk} {v1 v2 : Value} {c : Cm} (h : RfW w b v1 v2 c W) (ho : Only Nil W W1) : RfW w b v1 v2 c W1 := ⟨ho.blk h.b (fun q => q), ho.blk h.c (fun q => q), h.o.trans ho (fun _ _ q => q)⟩
set_option maxHeartbeats 1600000 in
set_option maxRecDepth 100000 in
theorem refusedR_any (b : Bk) (v1 v2 : Value) (c : Cm) (w : World) (h1 : LR w v1 b.buys) (h2 : LR w v2 b.sells) (hw : c.wf) (hn1 : b.buys.length ≤ 100000) (hn2 : b.sells.length ≤ 100000) :
    Calls Try.prog 24 #[.agg (bkRow b v1 v2), .agg (cmRow c)] w fun e w' => e = .returned (.int .i64 (refusedR b c)) ∧ Only Nil w w' := by
  have HFi := Lib.hid (fun W (ho : Only Nil w W) => findR_any b v1 v2 c.target W (h1.nil ho) (h2.nil ho))
  have HCh := Lib.hid (fun W => checkR_any c W hw)
  have HMe := Lib.hid (fun W (o : Co) (ho : Only Nil w W) (hs : o.side = 1 ∨ o.side = 2) => meetsR_any b v1 v2 o W (h1.nil ho) (h2.nil ho) hs)
  obtain ⟨A1, c1, rfl, q1, q2⟩ := h1.sl
  obtain ⟨A2, c2, rfl, q3, q4⟩ := h2.sl
  obtain ⟨fr, fs, ff, hfr, hff⟩ := findRV_eq b c.target
  rw [hfr] at HFi
  have HFF := Lib.hid hff
  have hE : refusedR b c = refusedR b c := rfl
  conv at hE => rhs; unfold refusedR
  have HRf := Lib.hid hE
  clear hE
  have HV0 : Hid (RfW w b (.slice A1 b.buys.length c1) (.slice A2 b.sells.length c2) c ((w.alloc (.cells (bkRow b (.slice A1 b.buys.length c1) (.slice A2 b.sells.length c2)) tBk)).alloc (.cells (cmRow c) tCm))) :=
    Lib.hid ⟨blk_alloc (blk_new _ _) _, blk_new' _ _ _ (by simp), ((Only.refl _ _).alloc _).alloc _⟩
  have hwr : IntKind.i64.wrap ((b.buys.length : Int) + (b.sells.length : Int)) = (b.count : Int) := by unfold Bk.count; rw [IntKind.wrap_i64]; omega
  clear h1 h2 q1 q2 q3 q4 hw hff hfr hn1 hn2
  go_enter Try.func24, Try.ntmps24
  go_upto_region 1 with fail
  generalize hW : World.alloc (World.alloc w _) _ = W0
  have hW' : (w.alloc (.cells (bkRow b (.slice A1 b.buys.length c1) (.slice A2 b.sells.length c2)) tBk)).alloc (.cells (cmRow c) tCm) = W0 := hW
  rw [hW'] at HV0
  clear hW hW'
  have HV := HV0
  clear HV0
  obtain ⟨b0, b1, b2, b3, b4, b5, bf, bl⟩ := blk_cellsof HV.out.b
  obtain ⟨d0, d1, d2, d3, d4, d5, d6, d7, d8, df, dl⟩ := cm_cells HV.out.c
  by_cases hk1 : c.kind < 1
  · have e1 : decide (c.kind < 1) = true := by simp [hk1]
    have HR : Hid (refusedR b c = 90) := Lib.hid (by rw [HRf.out, if_pos (.inl hk1)])
    clear hk1
    go_wp2
    go_ret
    exact ⟨by rw [HR.out]; rfl, HV.out.o⟩
  by_cases hk3 : 3 < c.kind
  · have e1 : decide (c.kind < 1) = false := by simp [hk1]
    have e2 : decide (3 < c.kind) = true := by simp [hk3]
    have HR : Hid (refusedR b c = 90) := Lib.hid (by rw [HRf.out, if_pos (.inr hk3)])
    clear hk1 hk3
    go_wp2
    go_ret
    exact ⟨by rw [HR.out]; rfl, HV.out.o⟩
  have e1 : decide (c.kind < 1) = false := by simp [hk1]
  have e2 : decide (3 < c.kind) = false := by simp [hk3]
  have hE := HRf.out
  rw [if_neg (show ¬ (c.kind < 1 ∨ 3 < c.kind) by omega)] at hE
  have HRf2 := Lib.hid hE
  clear hE
  have HKr := Lib.hid (show 1 ≤ c.kind ∧ c.kind ≤ 3 by omega)
  clear HRf hk1 hk3
  go_upto_region 3 with fail
  go_cut [5, 6, 7] from 5 to 92 (fun v5 v6 v7 wc => ∃ k5, v5 = .pointer (some ⟨k5, 0, none⟩) ∧ v6 = .int .i64 fs ∧ v7 = .bool ff ∧ Hid (RfW w b (.slice A1 b.buys.length c1) (.slice A2 b.sells.length c2) c wc) ∧ Hid (wc.heap[k5]? = some (.cells fr.row tR (0, 0))))
  case first =>
    go_wp2_with fail
    refine (HFi.out _ HV.out.o).mono ?_
    rintro e w1 ⟨rfl, ho⟩
    have HV1 := Lib.hid (HV.out.nil ho)
    have HZ1 := Lib.hid (blk_new w1 (.cells zR.row tR))
    clear ho HV b0 b1 b2 b3 b4 b5 bf bl d0 d1 d2 d3 d4 d5 d6 d7 d8 df dl
    go_wp2_with (refine wpList_store_row rfl tR (.tmp 5) (.tmp 23) rfl _ rfl fr.row zR.row rfl _ HZ1.out infoRs rfl (one_row _) ?_)
    go_meet
    case rel => exact ⟨_, rfl, rfl, rfl, Lib.hid ⟨blk_setRow_far (blk_alloc HV1.out.b _) (by have := blk_lt HV1.out.b; omega) _, blk_setRow_far (blk_alloc HV1.out.c _) (by have := blk_lt HV1.out.c; omega) _, (HV1.out.o.alloc _).setRow (.inr (HV1.out.o.size)) _⟩, Lib.hid (blk_setRow HZ1.out fr.row)⟩
  case rest =>
    obtain ⟨k5, rfl, rfl, rfl, HV3, HK5⟩ := hcut
    clear HV b0 b1 b2 b3 b4 b5 bf bl d0 d1 d2 d3 d4 d5 d6 d7 d8 df dl
    have HV := HV3
    clear HV3
    obtain ⟨b0, b1, b2, b3, b4, b5, bf, bl⟩ := blk_cellsof HV.out.b
    obtain ⟨d0, d1, d2, d3, d4, d5, d6, d7, d8, df, dl⟩ := cm_cells HV.out.c
    obtain ⟨y0, y1, y2, y3, y4, y5, y6, yf, yl⟩ := rs_cellsR HK5.out
    by_cases hk : c.kind ≠ 1 ∧ ff = false
    · have hc1 : (c.kind != 1) = true := by simp [hk.1]
      obtain ⟨hk1, rfl⟩ := hk
      have hn : findR b c.target = none := HFF.out.elim (fun q => absurd q.1 (by decide)) (fun q => q.2)
      have HR : Hid (refusedR b c = 91) := Lib.hid (by rw [HRf2.out, if_pos ⟨hk1, by rw [hn]; rfl⟩])
      clear hk1 hn HFF
      go_wp2
      go_ret
      exact ⟨by rw [HR.out]; rfl, HV.out.o⟩
    have HKf := Lib.hid (show c.kind = 1 ∨ (findR b c.target = some (fr, fs) ∧ (fs = 1 ∨ fs = 2)) by
      rcases HFF.out with ⟨_, q⟩ | ⟨q, _⟩
      · exact .inr q
      · exact .inl (Decidable.byContradiction fun q2 => hk ⟨q2, q⟩))
    have hE := HRf2.out
    rw [if_neg (show ¬ (c.kind ≠ 1 ∧ (findR b c.target).isNone = true) by
        rintro ⟨q1, q2⟩
        rcases HKf.out with q | ⟨q, _⟩
        · exact q1 q
        · rw [q] at q2; cases q2)] at hE
    have HRf3 := Lib.hid hE
    clear hE
    have HWy := Lib.hid (show (c.kind != 1) = false ∨ ((c.kind != 1) = true ∧ ff = true) by
      by_cases q : c.kind = 1
      · exact .inl (by simp [q])
      · refine .inr ⟨by simp [q], ?_⟩
        cases ff with
        | false => exact absurd ⟨q, rfl⟩ hk
        | true => rfl)
    clear hk HRf2 HFF
    go_upto_region 4 with fail
    go_cut [32] from 10 to 92 (fun v32 wc => v32 = .bool false ∧ Hid (RfW w b (.slice A1 b.buys.length c1) (.slice A2 b.sells.length c2) c wc) ∧ Hid (wc.heap[k5]? = some (.cells fr.row tR (0, 0))))
    case first =>
      have hway := HWy.out
      clear HWy
      rcases hway with q | ⟨q, rfl⟩
      all_goals
        go_wp2
        go_meet
        case rel => exact ⟨rfl, HV, HK5⟩
    case rest =>
      obtain ⟨rfl, HV4, HK6⟩ := hcut
      clear HV HK5 HWy b0 b1 b2 b3 b4 b5 bf bl d0 d1 d2 d3 d4 d5 d6 d7 d8 df dl y0 y1 y2 y3 y4 y5 y6 yf yl
      have HV := HV4
      clear HV4
      obtain ⟨b0, b1, b2, b3, b4, b5, bf, bl⟩ := blk_cellsof HV.out.b
      obtain ⟨d0, d1, d2, d3, d4, d5, d6, d7, d8, df, dl⟩ := cm_cells HV.out.c
      go_wp2_with fail
      refine (HCh.out _).mono ?_
      rintro e w2 ⟨rfl, ho⟩
      have HV5 := Lib.hid (HV.out.nil ho)
      have HK7 := Lib.hid (ho.blk HK6.out (fun q => q))
      clear HV HK6 ho b0 b1 b2 b3 b4 b5 bf bl d0 d1 d2 d3 d4 d5 d6 d7 d8 df dl
      have HV := HV5
      clear HV5
      obtain ⟨b0, b1, b2, b3, b4, b5, bf, bl⟩ := blk_cellsof HV.out.b
      obtain ⟨d0, d1, d2, d3, d4, d5, d6, d7, d8, df, dl⟩ := cm_cells HV.out.c
      by_cases hc0 : checkR c ≠ 0
      · have hcb : (checkR c != 0) = true := by simp [hc0]
        have HR : Hid (refusedR b c = checkR c) := Lib.hid (by rw [HRf3.out, if_pos (.inl hc0)])
        clear hc0 HRf3
        go_wp2
        go_ret
        exact ⟨by rw [HR.out]; rfl, HV.out.o⟩
      have hc0 : checkR c = 0 := by omega
      have hcb : (checkR c != 0) = false := by simp [hc0]
      by_cases hk2 : c.kind = 2
      · have hkb : (c.kind == 2) = true := by simp [hk2]
        have HR : Hid (refusedR b c = checkR c) := Lib.hid (by rw [HRf3.out, if_pos (.inr hk2)])
        clear hc0 hk2 HRf3
        go_wp2
        go_ret
        exact ⟨by rw [HR.out]; rfl, HV.out.o⟩
      have hkb : (c.kind == 2) = false := by simp [hk2]
      have hE := HRf3.out
      rw [if_neg (show ¬ (checkR c ≠ 0 ∨ c.kind = 2) from fun q => q.elim (fun q => q hc0) hk2)] at hE
      have HRf4 := Lib.hid hE
      have HSd := Lib.hid (check_side hc0)
      have HK2 := Lib.hid hk2
      clear hE HRf3 hc0 hk2
      by_cases hh : c.id ≤ b.high
      · have hhb : decide (c.id ≤ b.high) = true := by simp [hh]
        have HR : Hid (refusedR b c = 97) := Lib.hid (by rw [HRf4.out, if_pos hh])
        clear hh HRf4
        go_wp2
        go_ret
        exact ⟨by rw [HR.out]; rfl, HV.out.o⟩
      have hhb : decide (c.id ≤ b.high) = false := by simp [hh]
      have hE := HRf4.out
      rw [if_neg hh] at hE
      have HRf5 := Lib.hid hE
      clear hE HRf4 hh
      go_upto_region 11 with fail
      go_cut [9] from 8 to 92 (fun v9 wc => ∃ k9, v9 = .pointer (some ⟨k9, 0, none⟩) ∧ Hid (RfW w b (.slice A1 b.buys.length c1) (.slice A2 b.sells.length c2) c wc) ∧ Hid (wc.heap[k5]? = some (.cells fr.row tR (0, 0))) ∧ Hid (wc.heap[k9]? = some (.cells (coRow ⟨0, 0, 0, 0, c.side, c.typ, c.price⟩) tCo (0, 0))) ∧ Hid (w.heap.size ≤ k9))
      case first =>
        go_wp2
        go_meet
        case rel =>
          exact ⟨w2.heap.size, rfl, Lib.hid (HV.out.nil ((Only.refl _ _).alloc _)), Lib.hid (blk_alloc HK7.out _), Lib.hid (blk_new w2 (.cells (coRow ⟨0, 0, 0, 0, c.side, c.typ, c.price⟩) tCo)), Lib.hid HV.out.o.size⟩
      case rest =>
        obtain ⟨k9, rfl, HV6, HK8, HK9, HZ9⟩ := hcut
        clear HV HK7 b0 b1 b2 b3 b4 b5 bf bl d0 d1 d2 d3 d4 d5 d6 d7 d8 df dl
        have HV := HV6
        clear HV6
        obtain ⟨b0, b1, b2, b3, b4, b5, bf, bl⟩ := blk_cellsof HV.out.b
        obtain ⟨d0, d1, d2, d3, d4, d5, d6, d7, d8, df, dl⟩ := cm_cells HV.out.c
        obtain ⟨o0, o1, o2, o3, o4, o5, o6, of, ol⟩ := co_cells HK9.out
        obtain ⟨y0, y1, y2, y3, y4, y5, y6, yf, yl⟩ := rs_cellsR HK8.out
        simp only at o0 o1 o2 o3 o4 o5 o6
        by_cases hk3 : c.kind = 3
        · have hk3b : (c.kind == 3) = true := by simp [hk3]
          have hfs := HKf.out.elim (fun q => absurd q (by omega)) (fun q => q)
          have hE := HRf5.out
          rw [if_pos hk3, hfs.1] at hE
          simp only at hE
          have HRf6 := Lib.hid hE
          have HS := Lib.hid hfs.2
          clear hE HRf5 hfs HKf hk3 HK2 HKr HSd
          go_upto_region 13 with fail
          go_cut [9] from 9 to 92 (fun v9 wc => v9 = .pointer (some ⟨k9, 0, none⟩) ∧ Hid (RfW w b (.slice A1 b.buys.length c1) (.slice A2 b.sells.length c2) c wc) ∧ Hid (wc.heap[k9]? = some (.cells (coRow ⟨0, 0, 0, 0, fs, fr.typ, c.price⟩) tCo (0, 0))))
          case first =>
            go_region_law (fail)
            all_goals
              go_wp2
              go_meet
              case rel =>
                have hb := HV.out.b
                have hc := HV.out.c
                refine ⟨rfl, Lib.hid ⟨?_, ?_, ?_⟩, Lib.hid ?_⟩
                · first
                  | exact blk_drew (blk_far (blk_far hb (fun q => blk_ne hb HK9.out (by decide) q) _) (fun q => blk_ne hb HK9.out (by decide) q) _)
                · first
                  | exact blk_drew (blk_far (blk_far hc (fun q => blk_ne hc HK9.out (by decide) q) _) (fun q => blk_ne hc HK9.out (by decide) q) _)
                · first
                  | exact ((HV.out.o.setCell (.inr HZ9.out) _).setCell (.inr HZ9.out) _).drew
                · first
                  | exact blk_drew (blk_set (blk_set HK9.out 4 _) 5 _)
          case rest =>
            obtain ⟨rfl, HV7, HKa⟩ := hcut
            clear HV HK8 HK9 b0 b1 b2 b3 b4 b5 bf bl d0 d1 d2 d3 d4 d5 d6 d7 d8 df dl o0 o1 o2 o3 o4 o5 o6 of ol y0 y1 y2 y3 y4 y5 y6 yf yl
            have HV := HV7
            clear HV7
            obtain ⟨b0, b1, b2, b3, b4, b5, bf, bl⟩ := blk_cellsof HV.out.b
            obtain ⟨d0, d1, d2, d3, d4, d5, d6, d7, d8, df, dl⟩ := cm_cells HV.out.c
            obtain ⟨o0, o1, o2, o3, o4, o5, o6, of, ol⟩ := co_cells HKa.out
            simp only at o0 o1 o2 o3 o4 o5 o6
            by_cases h5 : fr.typ = 5
            · have h5b : (fr.typ == 5) = true := by simp [h5]
              have hE := HRf6.out
              cases hm : meetsR b ⟨0, 0, 0, 0, fs, fr.typ, c.price⟩ with
              | true =>
                have HR : Hid (refusedR b c = 99) := Lib.hid (by rw [HRf6.out, if_pos ⟨h5, hm⟩])
                have HMm := Lib.hid (HMe.out wc ⟨0, 0, 0, 0, fs, fr.typ, c.price⟩ HV.out.o HS.out)
                rw [hm] at HMm
                clear h5 hE hm HRf6
                go_wp2_with fail
                refine HMm.out.mono ?_
                rintro e w3 ⟨rfl, ho⟩
                have HO := Lib.hid (HV.out.nil ho).o
                clear ho
                go_wp2
                go_ret
                exact ⟨by rw [HR.out]; rfl, HO.out⟩
              | false =>
                have HR : Hid (refusedR b c = 0) := Lib.hid (by rw [HRf6.out, if_neg (by rw [hm]; simp)])
                have HMm := Lib.hid (HMe.out wc ⟨0, 0, 0, 0, fs, fr.typ, c.price⟩ HV.out.o HS.out)
                rw [hm] at HMm
                clear h5 hE hm HRf6
                go_wp2_with fail
                refine HMm.out.mono ?_
                rintro e w3 ⟨rfl, ho⟩
                have HO := Lib.hid (HV.out.nil ho).o
                clear ho
                go_wp2
                go_ret
                exact ⟨by rw [HR.out]; rfl, HO.out⟩
            · have h5b : (fr.typ == 5) = false := by simp [h5]
              have HR : Hid (refusedR b c = 0) := Lib.hid (by rw [HRf6.out, if_neg (fun q => h5 q.1)])
              clear h5 HRf6
              go_wp2
              go_ret
              exact ⟨by rw [HR.out]; rfl, HV.out.o⟩
        · have hk3b : (c.kind == 3) = false := by simp [hk3]
          have hS := HSd.out (by have := HKr.out; have := HK2.out; omega)
          have hE := HRf5.out
          rw [if_neg hk3] at hE
          have HRf6 := Lib.hid hE
          have HS := Lib.hid hS
          clear hE HRf5 hS HKf hk3 HK2 HKr HSd
          go_upto_region 14 with fail
          go_cut [83] from 55 to 92 (fun v83 wc => ∃ tb, v83 = .bool tb ∧ Hid (tb = decide ((c.typ = 1 ∨ c.typ = 5) ∧ b.cap ≤ (b.count : Int))) ∧ Hid (RfW w b (.slice A1 b.buys.length c1) (.slice A2 b.sells.length c2) c wc) ∧ Hid (wc.heap[k9]? = some (.cells (coRow ⟨0, 0, 0, 0, c.side, c.typ, c.price⟩) tCo (0, 0))))
          case first =>
            have hway : ((c.typ == 1) = true ∧ Hid (c.typ = 1 ∨ c.typ = 5)) ∨ ((c.typ == 1) = false ∧ (c.typ == 5) = true ∧ Hid (c.typ = 1 ∨ c.typ = 5)) ∨ ((c.typ == 1) = false ∧ (c.typ == 5) = false ∧ Hid (¬ (c.typ = 1 ∨ c.typ = 5))) := by
              by_cases q1 : c.typ = 1
              · exact .inl ⟨by simp [q1], Lib.hid (.inl q1)⟩
              · by_cases q2 : c.typ = 5
                · exact .inr (.inl ⟨by simp [q1], by simp [q2], Lib.hid (.inr q2)⟩)
                · exact .inr (.inr ⟨by simp [q1], by simp [q2], Lib.hid (by simp [q1, q2])⟩)
            rcases hway with ⟨k1, HP⟩ | ⟨k1, k2, HP⟩ | ⟨k1, k2, HP⟩
            · go_wp2
              go_meet
              case rel => exact ⟨decide (b.cap ≤ (b.count : Int)), by go_num, Lib.hid (decide_eq_decide.2 ⟨fun q => ⟨HP.out, q⟩, fun q => q.2⟩), HV, HK9⟩
            · go_wp2
              go_meet
              case rel => exact ⟨decide (b.cap ≤ (b.count : Int)), by go_num, Lib.hid (decide_eq_decide.2 ⟨fun q => ⟨HP.out, q⟩, fun q => q.2⟩), HV, HK9⟩
            · go_wp2
              go_meet
              case rel => exact ⟨false, rfl, Lib.hid (decide_eq_false (fun q => HP.out q.1)).symm, HV, HK9⟩
          case rest =>
            obtain ⟨tb, rfl, HTb, HV7, HKa⟩ := hcut
            clear HV HK8 HK9 b0 b1 b2 b3 b4 b5 bf bl d0 d1 d2 d3 d4 d5 d6 d7 d8 df dl o0 o1 o2 o3 o4 o5 o6 of ol y0 y1 y2 y3 y4 y5 y6 yf yl
            have HV := HV7
            clear HV7
            cases tb with
            | true =>
              have HR : Hid (refusedR b c = 98) := Lib.hid (by rw [HRf6.out, if_pos (of_decide_eq_true HTb.out.symm)])
              go_wp2
              go_ret
              exact ⟨by rw [HR.out]; rfl, HV.out.o⟩
            | false =>
              have hE := HRf6.out
              rw [if_neg (of_decide_eq_false HTb.out.symm)] at hE
              have HRf7 := Lib.hid hE
              clear hE HRf6 HTb
              have HRf6 := HRf7
              clear HRf7
              obtain ⟨b0, b1, b2, b3, b4, b5, bf, bl⟩ := blk_cellsof HV.out.b
              obtain ⟨d0, d1, d2, d3, d4, d5, d6, d7, d8, df, dl⟩ := cm_cells HV.out.c
              obtain ⟨o0, o1, o2, o3, o4, o5, o6, of, ol⟩ := co_cells HKa.out
              simp only at o0 o1 o2 o3 o4 o5 o6
              by_cases h5 : c.typ = 5
              · have h5b : (c.typ == 5) = true := by simp [h5]
                have hE := HRf6.out
                cases hm : meetsR b ⟨0, 0, 0, 0, c.side, c.typ, c.price⟩ with
                | true =>
                  have HR : Hid (refusedR b c = 99) := Lib.hid (by rw [HRf6.out, if_pos ⟨h5, hm⟩])
                  have HMm := Lib.hid (HMe.out wc ⟨0, 0, 0, 0, c.side, c.typ, c.price⟩ HV.out.o HS.out)
                  rw [hm] at HMm
                  clear h5 hE hm HRf6
                  go_wp2_with fail
                  refine HMm.out.mono ?_
                  rintro e w3 ⟨rfl, ho⟩
                  have HO := Lib.hid (HV.out.nil ho).o
                  clear ho
                  go_wp2
                  go_ret
                  exact ⟨by rw [HR.out]; rfl, HO.out⟩
                | false =>
                  have HR : Hid (refusedR b c = 0) := Lib.hid (by rw [HRf6.out, if_neg (by rw [hm]; simp)])
                  have HMm := Lib.hid (HMe.out wc ⟨0, 0, 0, 0, c.side, c.typ, c.price⟩ HV.out.o HS.out)
                  rw [hm] at HMm
                  clear h5 hE hm HRf6
                  go_wp2_with fail
                  refine HMm.out.mono ?_
                  rintro e w3 ⟨rfl, ho⟩
                  have HO := Lib.hid (HV.out.nil ho).o
                  clear ho
                  go_wp2
                  go_ret
                  exact ⟨by rw [HR.out]; rfl, HO.out⟩
              · have h5b : (c.typ == 5) = false := by simp [h5]
                have HR : Hid (refusedR b c = 0) := Lib.hid (by rw [HRf6.out, if_neg (fun q => h5 q.1)])
                clear h5 HRf6
                go_wp2
                go_ret
                exact ⟨by rw [HR.out]; rfl, HV.out.o⟩
end Ck
end Go.Proofs.Ytcnkbhgdcfckoaa
