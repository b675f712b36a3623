/- The walks of the document's step (whichever), and of its trades. -/
import Derived.Test.YtcnkbhgdcfckoaaNd
import Derived.Test.YtcnkbhgdcfckoaaNe
import Derived.Test.YtcnkbhgdcfckoaaNf
import Derived.Test.YtcnkbhgdcfckoaaNg
import Derived.Test.YtcnkbhgdcfckoaaMc
set_option linter.unusedVariables false
set_option linter.unusedSimpArgs false
namespace Go.Proofs.Ytcnkbhgdcfckoaa
open Go.RowKit
namespace Ck
theorem side_le {b : Bk} {s : Int} {NB NS : Nat} (h1 : b.buys.length ≤ NB) (h2 : b.sells.length ≤ NS) (hB : NB ≤ 1000000) (hS : NS ≤ 1000000) : (sideR b s).length ≤ 1000000 := by
  unfold sideR
  split
  · omega
  · split
    · omega
    · simp
theorem stepR_any {K NB NS : Nat} {b : Bk} {l : List Ev} {v1 v2 v3 : Value} {o : Co} {w : World} (h1 : LR w v1 b.buys) (h2 : LR w v2 b.sells) (h3 : LE w v3 l) (hi : Iv K NB NS (b, l) o) (hK : K ≤ 100000000000) (hN : NB ≤ 1000000 ∧ NS ≤ 1000000)
    (hl : 0 < o.left) (hne : meetsR b o = true) : Calls Try.prog 64 #[.agg (tdRow b v1 v2 v3), .agg (coRow o)] w (StepPost (stepR (b, l) o).1 (stepR (b, l) o).2 w) := by
  cases hd : sideR b (3 - o.side) with
  | nil => unfold meetsR at hne; rw [hd] at hne; cases hne
  | cons m r =>
    have hn : (m :: r).length ≤ 1000000 := by rw [← hd]; exact side_le hi.nb hi.ns hN.1 hN.2
    have hm : OkR m := hi.ok.side (3 - o.side) m (by rw [hd]; simp)
    have hlen : l.length ≤ 100000000000 := Nat.le_trans hi.len hK
    have hlf : 1 ≤ o.left ∧ o.left ≤ 4294967295 := ⟨by omega, hi.left.2⟩
    cases ho : ownR b o m with
    | true =>
      rcases hi.meet with hk | hk | hk | hk
      · have : ownR b o m = false := by unfold ownR; simp only at hk; rw [hk]; simp
        rw [ho] at this; cases this
      · exact step_own1 b l v1 v2 v3 o m r w h1 h2 h3 hlen hi.seq hn hi.side hd hm hlf ho hk
      · exact step_own2 b l v1 v2 v3 o m r w h1 h2 h3 hlen hi.seq hn hi.side hd hm hlf ho hk
      · exact step_own3 b l v1 v2 v3 o m r w h1 h2 h3 hlen hi.seq hn hi.side hd hm hlf ho hk
    | false =>
      by_cases hmore : 0 < m.vis - (if m.vis < o.left then m.vis else o.left)
      · exact step_more b l v1 v2 v3 o m r w h1 h2 h3 hlen hi.seq hn hi.side hd hm hlf ho hmore
      · by_cases hh : 0 < m.hid
        · exact step_fresh b l v1 v2 v3 o m r w h1 h2 h3 hlen hi.seq hn hi.side hd hm hlf ho hmore hh
        · exact step_gone b l v1 v2 v3 o m r w h1 h2 h3 hlen hi.seq hn hi.side hd hm hlf ho hmore hh
set_option maxHeartbeats 1600000 in
set_option maxRecDepth 100000 in
theorem tradesR_any {K NB NS : Nat} {b : Bk} {l : List Ev} {v1 v2 v3 : Value} {o : Co} {w : World} (h1 : LR w v1 b.buys) (h2 : LR w v2 b.sells) (h3 : LE w v3 l) (hi : Iv K NB NS (b, l) o) (hK : K ≤ 100000000000) (hN : NB ≤ 1000000 ∧ NS ≤ 1000000) :
    Calls Try.prog 45 #[.agg (tdRow b v1 v2 v3), .agg (coRow o)] w (StepPost (tradesR (todoR b o) (b, l) o).1 (tradesR (todoR b o) (b, l) o).2 w) := by
  have i1 := h1.isSl
  have i2 := h2.isSl
  have i3 := h3.isSl
  have HV0 := Lib.hid (st_begin (o := o) h1 h2 h3)
  have HI := Lib.hid hi
  have HK := Lib.hid hK
  have HN := Lib.hid hN
  have hlf := hi.left.2
  obtain ⟨N0, hN0⟩ : ∃ N0, N0 = todoR b o := ⟨_, rfl⟩
  have HT0 : Hid (todoR b o ≤ N0 ∨ o.left = 0) := Lib.hid (.inl (by rw [hN0]; exact Nat.le_refl _))
  rw [← hN0]
  obtain ⟨A1, n1, c1, rfl⟩ := i1
  obtain ⟨A2, n2, c2, rfl⟩ := i2
  obtain ⟨A3, n3, c3, rfl⟩ := i3
  clear h1 h2 h3 hi hK hN hN0
  go_enter Try.func45, Try.ntmps45
  go_wp2
  generalize hW : World.alloc (World.alloc (World.alloc (World.alloc w _) _) _) _ = W0
  have hW' : ((((w.alloc (.cells (tdRow b (.slice A1 n1 c1) (.slice A2 n2 c2) (.slice A3 n3 c3)) tTd)).alloc (.cells (coRow o) tCo)).alloc (.cells td0 tTd)).alloc (.cells (coRow zCo) tCo)) = W0 := hW
  rw [hW'] at HV0
  clear hW hW'
  go_loopg [6] (N0) (fun n v6 wr => ∃ k bk lk u1 u2 u3 ok, n = k ∧ IsSl u1 ∧ IsSl u2 ∧ IsSl u3 ∧ Hid (StW w w.heap.size (w.heap.size + 1) (w.heap.size + 1 + 1) (w.heap.size + 1 + 1 + 1) bk lk u1 u2 u3 ok wr) ∧ Hid (Iv K NB NS (bk, lk) ok) ∧ Hid (tradesR k (bk, lk) ok = tradesR N0 (b, l) o) ∧ Hid (todoR bk ok ≤ k ∨ ok.left = 0) ∧ ok.left ≤ 4294967295)
  case atStart => exact ⟨N0, b, l, _, _, _, o, rfl, ⟨_, _, _, rfl⟩, ⟨_, _, _, rfl⟩, ⟨_, _, _, rfl⟩, HV0, HI, Lib.hid rfl, HT0, hlf⟩
  case round =>
    obtain ⟨k, bk, lk, u1, u2, u3, ok, hm, i1, i2, i3, HV, HIk, HEk, HTk, hlk⟩ := hrel
    obtain ⟨A1', n1', c1', rfl⟩ := i1
    obtain ⟨A2', n2', c2', rfl⟩ := i2
    obtain ⟨A3', n3', c3', rfl⟩ := i3
    clear HV0 HI HT0
    have HMs := Lib.hid hm
    clear hm
    obtain ⟨b0, b1, b2, b3, b4, b5, b6, bf, bl⟩ := td_cells HV.out.t
    obtain ⟨o0, o1, o2, o3, o4, o5, o6, of, ol⟩ := co_cells HV.out.o
    by_cases hleft : 0 < ok.left
    · have HM := Lib.hid (meetsR_any bk _ _ ok wr HV.out.lb HV.out.ls HIk.out.side)
      go_wp2_with fail
      refine HM.out.mono ?_
      rintro e w1 ⟨rfl, ho⟩
      have HV1 := Lib.hid (HV.out.nil ho)
      have HLf := Lib.hid hleft
      clear ho HM HV b0 b1 b2 b3 b4 b5 b6 bf bl o0 o1 o2 o3 o4 o5 o6 of ol
      obtain ⟨b0, b1, b2, b3, b4, b5, b6, bf, bl⟩ := td_cells HV1.out.t
      obtain ⟨o0, o1, o2, o3, o4, o5, o6, of, ol⟩ := co_cells HV1.out.o
      cases hne : meetsR bk ok with
      | true =>
        have HNe := Lib.hid hne
        cases k with
        | zero =>
          exfalso
          have := todoR_pos HIk.out.ok hne
          have := HTk.out
          simp only at *
          omega
        | succ k =>
          have HS1 := Lib.hid (stepR_any HV1.out.lb HV1.out.ls HV1.out.le HIk.out HK.out HN.out hleft hne)
          have HI2 := Lib.hid (HIk.out.step hleft hne)
          have HT2 := Lib.hid (HIk.out.todo hleft hne HTk.out)
          have HE2 : Hid (tradesR k (stepR (bk, lk) ok).1 (stepR (bk, lk) ok).2 = tradesR N0 (b, l) o) := Lib.hid (by
            rw [← HEk.out]
            conv => rhs; unfold tradesR
            rw [if_pos ⟨hleft, hne⟩])
          clear hne
          go_wp2_with fail
          refine HS1.out.mono ?_
          rintro e w2 ⟨x1, x2, x3, rfl, hx1, hx2, hx3, ho⟩
          obtain ⟨X1, m1, d1, rfl⟩ := hx1.isSl
          obtain ⟨X2, m2, d2, rfl⟩ := hx2.isSl
          obtain ⟨X3, m3, d3, rfl⟩ := hx3.isSl
          have HVa := Lib.hid (HV1.out.nil ho)
          have HVb := Lib.hid (HVa.out.setT hx1 hx2 hx3)
          have HVc := Lib.hid (HVb.out.setO (stepR (bk, lk) ok).2)
          have HL2 := Lib.hid HI2.out.left.2
          clear hx1 hx2 hx3 ho HV1 HS1 b0 b1 b2 b3 b4 b5 b6 bf bl o0 o1 o2 o3 o4 o5 o6 of ol
          generalize (stepR (bk, lk) ok).2 = oq at *
          generalize (stepR (bk, lk) ok).1 = tq at *
          obtain ⟨bq, lq⟩ := tq
          go_wp2_with (first
            | (refine wpList_store_row rfl tTd (.tmp 2) (.tmp 19) rfl _ rfl (tdRow bq (.slice X1 m1 d1) (.slice X2 m2 d2) (.slice X3 m3 d3)) _ rfl _ HVa.out.t infoTd rfl (one_td _ ⟨_, _, _, rfl⟩ ⟨_, _, _, rfl⟩ ⟨_, _, _, rfl⟩) ?_)
            | (refine wpList_store_row rfl tCo (.tmp 3) (.tmp 20) rfl _ rfl (coRow oq) _ rfl _ HVb.out.o infoCo rfl (one_co _) ?_))
          go_roundg k
          case measure => have := HMs.out; omega
          case rel => exact ⟨k, bq, lq, _, _, _, oq, rfl, ⟨_, _, _, rfl⟩, ⟨_, _, _, rfl⟩, ⟨_, _, _, rfl⟩, HVc, HI2, HE2, HT2, HL2.out⟩
      | false =>
        have HE : Hid (tradesR N0 (b, l) o = ((bk, lk), ok)) := Lib.hid (by rw [← HEk.out]; exact tradesR_stop (fun q => by rw [hne] at q; cases q.2))
        have HV := HV1
        clear hne HV1 HTk HEk HIk b0 b1 b2 b3 b4 b5 b6 bf bl o0 o1 o2 o3 o4 o5 o6 of ol
        go_upto_region 3 with fail
        obtain ⟨b0, b1, b2, b3, b4, b5, b6, bf, bl⟩ := td_cells HV.out.t
        obtain ⟨o0, o1, o2, o3, o4, o5, o6, of, ol⟩ := co_cells HV.out.o
        obtain ⟨r0, r1, r2, r3, r4, r5, r6, rf, rl⟩ := td_cells HV.out.r1
        obtain ⟨q0, q1, q2, q3, q4, q5, q6, qf, ql⟩ := co_cells HV.out.r2
        have hR : w.heap.size ≤ w.heap.size + 1 + 1 ∧ w.heap.size ≤ w.heap.size + 1 + 1 + 1 := ⟨by omega, by omega⟩
        have HRt := Lib.hid (fun W1 W2 hW => st_ret (W1 := W1) (W2 := W2) HV.out hR hW)
        clear hR
        go_region_law (fail)
        all_goals
          go_wp2
          show bodyPost _ _ (StepPost (tradesR N0 (b, l) o).1 (tradesR N0 (b, l) o).2 w) _ _ _
          rw [HE.out]
          generalize hWf : World.setCell _ _ _ = Wf
          have hr := HRt.out _ Wf (by first | exact .inl ⟨rfl, hWf.symm⟩ | exact .inr ⟨rfl, hWf.symm⟩)
          clear hWf
          obtain ⟨hr1, hr2, hr3⟩ := hr
          refine bodyPost_ret (results_two rfl _ _ (w.heap.size + 1 + 1) (w.heap.size + 1 + 1 + 1) tTd tCo _ _ _ _ rfl rfl (blk_drew hr1) (blk_drew hr2) Try.underlying64 rfl infoTd Try.underlying68 rfl infoCo) rfl ?_
          exact ⟨_, _, _, rfl, st_drew hr3⟩
    · have HE : Hid (tradesR N0 (b, l) o = ((bk, lk), ok)) := Lib.hid (by rw [← HEk.out]; exact tradesR_stop (fun q => hleft q.1))
      have hz : decide (0 < ok.left) = false := by simpa using hleft
      clear HTk HEk HIk
      go_upto_region 3 with fail
      obtain ⟨b0, b1, b2, b3, b4, b5, b6, bf, bl⟩ := td_cells HV.out.t
      obtain ⟨o0, o1, o2, o3, o4, o5, o6, of, ol⟩ := co_cells HV.out.o
      obtain ⟨r0, r1, r2, r3, r4, r5, r6, rf, rl⟩ := td_cells HV.out.r1
      obtain ⟨q0, q1, q2, q3, q4, q5, q6, qf, ql⟩ := co_cells HV.out.r2
      have hR : w.heap.size ≤ w.heap.size + 1 + 1 ∧ w.heap.size ≤ w.heap.size + 1 + 1 + 1 := ⟨by omega, by omega⟩
      have HRt := Lib.hid (fun W1 W2 hW => st_ret (W1 := W1) (W2 := W2) HV.out hR hW)
      clear hR
      go_region_law (fail)
      all_goals
        go_wp2
        show bodyPost _ _ (StepPost (tradesR N0 (b, l) o).1 (tradesR N0 (b, l) o).2 w) _ _ _
        rw [HE.out]
        generalize hWf : World.setCell _ _ _ = Wf
        have hr := HRt.out _ Wf (by first | exact .inl ⟨rfl, hWf.symm⟩ | exact .inr ⟨rfl, hWf.symm⟩)
        clear hWf
        obtain ⟨hr1, hr2, hr3⟩ := hr
        refine bodyPost_ret (results_two rfl _ _ (w.heap.size + 1 + 1) (w.heap.size + 1 + 1 + 1) tTd tCo _ _ _ _ rfl rfl (blk_drew hr1) (blk_drew hr2) Try.underlying64 rfl infoTd Try.underlying68 rfl infoCo) rfl ?_
        exact ⟨_, _, _, rfl, st_drew hr3⟩
end Ck
end Go.Proofs.Ytcnkbhgdcfckoaa
