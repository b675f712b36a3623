/- The walk of the checker's whole. -/
import Derived.Test.YtcnkbhgdcfckoaaMj
import Derived.Test.YtcnkbhgdcfckoaaMb
import Derived.Test.YtcnkbhgdcfckoaaMw
set_option linter.unusedVariables false
set_option linter.unusedSimpArgs false
namespace Go.Proofs.Ytcnkbhgdcfckoaa
open Go.RowKit
namespace Ck
theorem laysEv : Lays tEvt zE.row := fun W => by kernel_rfl
theorem laysCg' : ∀ W, (Instr.alloc tCg true (.tuple #[])).run Try.prog W = .ok (.pointer (some ⟨W.heap.size, 0, none⟩)) (W.alloc (.cells #[.int .u64 0, .int .u32 0, .int .i64 0, .int .i64 0, .int .u64 0, .int .u64 0, .int .u64 0, .int .i64 0, .int .i64 0, .int .u64 0, .bool false, .int .u64 0, .bool false] tCg)) := fun W => by kernel_rfl
def Cg.row (c : Cg) : Array Value := #[.int .u64 c.o.id, .int .u32 c.o.mem, .int .i64 c.o.typ, .int .i64 c.o.price, .int .u64 c.o.vis, .int .u64 c.o.hid, .int .u64 c.o.peak, .int .i64 c.side, .int .i64 c.kind, .int .u64 c.left, .bool c.traded, .int .u64 c.empty, .bool c.met]
theorem infoCg : (Try.prog.info? tCg).map (·.size) = some 13 := by kernel_rfl
theorem one_cg (c : Cg) : c.row.all (·.oneCell') = true := by cases c; kernel_rfl
theorem ends_pos {n : Nat} {b : Bk} {c : Cg} (h : Ends n b c) : ∃ k, n = k + 1 := by
  cases n with
  | zero => exact h.elim
  | succ k => exact ⟨k, rfl⟩
theorem due_of {b : Bk} {c : Cg} {m : Ev} (hb : b.ok) (hc : Cg.ok b c) (h : must true b c = some m) : Due b c m := by
  cases must_form hc.left.1 h with
  | fresh r l he hd hm =>
    subst hm
    have h1 := hb.side _ r (by rw [hd]; simp)
    have h2 := h1.hid
    have h3 := h1.peak.1
    exact .fresh r l rfl hd rfl ⟨by simp [evFresh]; omega, by simp [evFresh]; omega⟩
  | own q why he hm => subst hm; exact .own (by simp [evCancel]) (by simp [evCancel]) rfl
  | away r l q why he hl hd hm =>
    subst hm
    exact .away (by simp [evCancel]) (by simp [evCancel]) (kept_away hb hc he hd q why).1 (by rw [hd]; simp)
  | trade r l he hl hd hm =>
    subst hm
    have h1 := hb.side _ r (by rw [hd]; simp)
    have h2 := h1.vis
    exact .trade r l rfl hd ⟨by simp; omega, by simp; omega, by simp; omega⟩
theorem takes_left {b : Bk} {c : Cg} {m : Ev} (hb : b.ok) (hc : Cg.ok b c) (h : must true b c = some m) (hn : ¬ (m.kind = 4 ∧ m.id = c.o.id)) : (takes b c m).2.left = (if m.kind = 3 then c.left - m.qty else c.left) ∧ (m.kind = 3 → 0 ≤ m.qty ∧ m.qty ≤ c.left) := by
  cases must_form hc.left.1 h with
  | fresh r l he hd hm => subst hm; rw [takes_fresh _ hd]; exact ⟨by simp [evFresh], fun h => by simp [evFresh] at h⟩
  | own q why he hm => subst hm; exact absurd ⟨rfl, rfl⟩ hn
  | away r l q why he hl hd hm =>
    subst hm
    rw [takes_cancel (kept_away hb hc he hd q why).1]
    exact ⟨by simp [evCancel], fun h => by simp [evCancel] at h⟩
  | trade r l he hl hd hm =>
    subst hm
    have h1 := (hb.side _ r (by rw [hd]; simp)).vis
    have h2 := hc.left.1
    rw [takes_trade _ rfl hd]
    refine ⟨?_, fun _ => ⟨by simp; omega, by simp; omega⟩⟩
    split
    · rfl
    · split <;> rfl
def tryRow (b : Bk) (u1 u2 : Value) : Array Value := #[.int .i64 b.cap, .int .i64 b.meet, u1, u2, .int .u64 0, .int .u64 0, .pointer none, .pointer none]
theorem try12 {w wa wb : World} {b : Bk} {u1 u2 : Value} (hoa : Only Nil w wa) (hob : Only Nil wa wb) (h1 : wa.ownsRow 0 tR 7 u1 b.buys.length (b.buys.flatMap Rs.cells)) (n1 : ∀ k, u1.ownBlock = some k → w.heap.size ≤ k)
    (h2 : wb.ownsRow 0 tR 7 u2 b.sells.length (b.sells.flatMap Rs.cells)) (n2 : ∀ k, u2.ownBlock = some k → wa.heap.size ≤ k) :
    BkRep (wb.alloc (.cells (tryRow b u1 u2) tC)) wb.heap.size { b with high := 0, seq := 0 } u1 u2 (.pointer none) (.pointer none) ∧ (∀ k, Mine wb.heap.size u1 u2 k → w.heap.size ≤ k) ∧ Only Nil w (wb.alloc (.cells (tryRow b u1 u2) tC)) := by
  have o : Only Nil wb (wb.alloc (.cells (tryRow b u1 u2) tC)) := (Only.refl _ _).alloc _
  have s1 := hoa.size
  have s2 := hob.size
  refine ⟨⟨blk_new _ _, own_only (own_only h1 hob (fun _ _ h => h)) o (fun _ _ h => h), own_only h2 o (fun _ _ h => h), fun k hk hk2 => ?_⟩, fun k hk => ?_, (hoa.trans (S := Nil) hob (fun _ _ h => h)).trans (S := Nil) o (fun _ _ h => h)⟩
  · have := own_lt h1 hk
    have := n2 k hk2
    omega
  · rcases hk with hk | hk | hk
    · omega
    · exact n1 k hk
    · have := n2 k hk
      omega
theorem try21 {w wa wb : World} {b : Bk} {u1 u2 : Value} (hoa : Only Nil w wa) (hob : Only Nil wa wb) (h2 : wa.ownsRow 0 tR 7 u2 b.sells.length (b.sells.flatMap Rs.cells)) (n2 : ∀ k, u2.ownBlock = some k → w.heap.size ≤ k)
    (h1 : wb.ownsRow 0 tR 7 u1 b.buys.length (b.buys.flatMap Rs.cells)) (n1 : ∀ k, u1.ownBlock = some k → wa.heap.size ≤ k) :
    BkRep (wb.alloc (.cells (tryRow b u1 u2) tC)) wb.heap.size { b with high := 0, seq := 0 } u1 u2 (.pointer none) (.pointer none) ∧ (∀ k, Mine wb.heap.size u1 u2 k → w.heap.size ≤ k) ∧ Only Nil w (wb.alloc (.cells (tryRow b u1 u2) tC)) := by
  have o : Only Nil wb (wb.alloc (.cells (tryRow b u1 u2) tC)) := (Only.refl _ _).alloc _
  have s1 := hoa.size
  have s2 := hob.size
  refine ⟨⟨blk_new _ _, own_only h1 o (fun _ _ h => h), own_only (own_only h2 hob (fun _ _ h => h)) o (fun _ _ h => h), fun k hk hk2 => ?_⟩, fun k hk => ?_, (hoa.trans (S := Nil) hob (fun _ _ h => h)).trans (S := Nil) o (fun _ _ h => h)⟩
  · have := own_lt h2 hk2
    have := n1 k hk
    omega
  · rcases hk with hk | hk | hk
    · omega
    · have := n1 k hk
      omega
    · exact n2 k hk
theorem CgAt.s8 {w : World} {G : Nat} {c : Cg} (hg : CgAt w G c) (x : Int) : CgAt (w.setCell ⟨G, 8, none⟩ (.int .i64 x)) G { c with kind := x } := by
  unfold CgAt at *
  have := blk_set hg 8 (.int .i64 x)
  simpa using this
def zCg : Array Value := #[.int .u64 0, .int .u32 0, .int .i64 0, .int .i64 0, .int .u64 0, .int .u64 0, .int .u64 0, .int .i64 0, .int .i64 0, .int .u64 0, .bool false, .int .u64 0, .bool false]
set_option maxHeartbeats 3200000 in
set_option maxRecDepth 100000 in
theorem whole_any (C G n : Nat) (b : Bk) (c : Cg) (v1 v2 p6 p7 : Value) (w : World) (h : BkRep w C b v1 v2 p6 p7) (hg : CgAt w G c) (hb : b.ok) (hc : Cg.ok b c)
    (hE : Ends n { b with high := 0, seq := 0 } { c with kind := 3 }) :
    Calls Try.prog 69 #[.pointer (some ⟨C, 0, none⟩), .pointer (some ⟨G, 0, none⟩)] w fun e w' => e = .returned (.bool (wholeGo n { b with high := 0, seq := 0 } { c with kind := 3 } c.left)) ∧ Only Nil w w' := by
  have hroom := hb.room
  unfold Bk.count at hroom
  obtain ⟨A1, c1, rfl, _⟩ := own_slice h.r1
  obtain ⟨A2, c2, rfl, _⟩ := own_slice h.r2
  have HX := Lib.hid h
  have HG := Lib.hid hg
  have Hb := Lib.hid hb
  have Hc := Lib.hid hc
  have HEn := Lib.hid hE
  have HL1 := Lib.hid (fun W (ho : Only Nil w W) => clone_any (.slice A1 b.buys.length c1) b.buys W (HX.out.nil ho).r1 (by omega))
  have HL2 := Lib.hid (fun W (ho : Only Nil w W) => clone_any (.slice A2 b.sells.length c2) b.sells W (HX.out.nil ho).r2 (by omega))
  have Sof : ∀ W, Only Nil w W → W.cell? ⟨C, 0, none⟩ = some (.int .i64 b.cap) ∧ W.cell? ⟨C, 1, none⟩ = some (.int .i64 b.meet) ∧ W.cell? ⟨C, 2, none⟩ = some (.slice A1 b.buys.length c1) ∧ W.cell? ⟨C, 3, none⟩ = some (.slice A2 b.sells.length c2) ∧ C < W.heap.size := fun W ho => by
    have hx := (HX.out.nil ho).blk
    exact ⟨blk_cell hx 0, blk_cell hx 1, blk_cell hx 2, blk_cell hx 3, blk_lt hx⟩
  have HSof := Lib.hid Sof
  clear h hg hb hc hE Sof hroom
  go_enter Try.func69, Try.ntmps69
  go_upto_region 1 with fail
  go_cut [5] from 10 to 68 (fun v5 wc => ∃ (X : Nat) (u1 u2 : Value), v5 = .pointer (some ⟨X, 0, none⟩) ∧ Hid (BkRep wc X { b with high := 0, seq := 0 } u1 u2 (.pointer none) (.pointer none)) ∧ Hid (∀ k, Mine X u1 u2 k → w.heap.size ≤ k) ∧ Hid (Only Nil w wc))
  case first =>
    obtain ⟨a0, a1, a2, a3, lC⟩ := HSof.out w.drew (Only.refl _ _).drew
    go_region_law (first
      | (go_simp; go_at_call 40; (refine (HL1.out _ (Only.refl _ _).drew).mono ?_); rintro e wa ⟨⟨u1, rfl, hu1, hn1⟩, hoa⟩; (obtain ⟨A', c', rfl, _⟩ := own_slice hu1); have HOa := Lib.hid ((Only.refl Nil w).drew.trans (S := Nil) hoa (fun _ _ h => h)); (obtain ⟨r0, r1, r2, r3, rC⟩ := HSof.out wa HOa.out))
      | (go_simp; go_at_call 40; (refine (HL2.out _ HOa.out).mono ?_); rintro e wb ⟨⟨u2, rfl, hu2, hn2⟩, hob⟩; (obtain ⟨A'', c'', rfl, _⟩ := own_slice hu2); have HOb := Lib.hid (HOa.out.trans (S := Nil) hob (fun _ _ h => h)); (obtain ⟨s0, s1, s2, s3, sC⟩ := HSof.out wb HOb.out))
      | (go_simp; go_at_call 40; (refine (HL2.out _ (Only.refl _ _).drew).mono ?_); rintro e wa ⟨⟨u2, rfl, hu2, hn2⟩, hoa⟩; (obtain ⟨A', c', rfl, _⟩ := own_slice hu2); have HOa := Lib.hid ((Only.refl Nil w).drew.trans (S := Nil) hoa (fun _ _ h => h)); (obtain ⟨r0, r1, r2, r3, rC⟩ := HSof.out wa HOa.out))
      | (go_simp; go_at_call 40; (refine (HL1.out _ HOa.out).mono ?_); rintro e wb ⟨⟨u1, rfl, hu1, hn1⟩, hob⟩; (obtain ⟨A'', c'', rfl, _⟩ := own_slice hu1); have HOb := Lib.hid (HOa.out.trans (S := Nil) hob (fun _ _ h => h)); (obtain ⟨s0, s1, s2, s3, sC⟩ := HSof.out wb HOb.out)))
    all_goals
      clear a0 a1 a2 a3 lC r0 r1 r2 r3 rC s0 s1 s2 s3 sC
      go_wp2
      go_meet
      case rel =>
        first
        | exact ⟨_, _, _, rfl, Lib.hid (try12 HOa.out hob hu1 hn1 hu2 hn2).1, Lib.hid (try12 HOa.out hob hu1 hn1 hu2 hn2).2.1, Lib.hid (try12 HOa.out hob hu1 hn1 hu2 hn2).2.2⟩
        | exact ⟨_, _, _, rfl, Lib.hid (try21 HOa.out hob hu2 hn2 hu1 hn1).1, Lib.hid (try21 HOa.out hob hu2 hn2 hu1 hn1).2.1, Lib.hid (try21 HOa.out hob hu2 hn2 hu1 hn1).2.2⟩
  case rest =>
    obtain ⟨X, u1, u2, rfl, HT, HTn, HO1⟩ := hcut
    clear HX HL1 HL2 HSof
    have HGc := Lib.hid (HG.out.nil HO1.out)
    go_upto_region 3 with (first
      | (refine wpList_load_row rfl tCg (.tmp 30) rfl _ rfl _ _ _ _ (show _ = some (Obj.cells c.row tCg (0, 0)) from HGc.out) Try.underlying96 rfl infoCg ?_)
      | (refine wpList_alloc_store rfl tCg rfl 6 rfl zCg laysCg' rfl (.tmp 31) rfl rfl c.row rfl rfl infoCg rfl (one_cg _) ?_))
    generalize hW : World.alloc wc _ = W2
    have hW' : wc.alloc (.cells c.row tCg) = W2 := hW
    have ho2 : Only Nil wc W2 := by rw [← hW']; exact (Only.refl _ _).alloc _
    have HY2 : Hid (CgAt W2 wc.heap.size c) := Lib.hid (by rw [← hW']; exact blk_new _ _)
    have HT2 := Lib.hid (HT.out.nil ho2)
    have HG2 := Lib.hid (HGc.out.nil ho2)
    have HO2 : Hid (Only Nil w W2) := Lib.hid (HO1.out.trans (S := Nil) ho2 (fun _ _ h => h))
    have hYw : w.heap.size ≤ wc.heap.size := HO1.out.size
    clear hW hW' ho2 HT HO1 HGc
    generalize wc.heap.size = Y at *
    have y8 := blk_cell HY2.out 8
    have yf := fun k => blk_frozen HY2.out k
    have yl := blk_lt HY2.out
    simp only [List.getElem?_toArray, List.getElem?_cons_zero, List.getElem?_cons_succ] at y8
    go_upto_region 4 with fail
    generalize hW : World.setCell W2 _ _ = W3
    have hW' : W2.setCell ⟨Y, 8, none⟩ (.int .i64 3) = W3 := hW
    have HY3 : Hid (CgAt W3 Y { c with kind := 3 }) := Lib.hid (by rw [← hW']; exact HY2.out.s8 3)
    have HT3 : Hid (BkRep W3 X { b with high := 0, seq := 0 } u1 u2 (.pointer none) (.pointer none)) := Lib.hid (by rw [← hW']; exact HT2.out.setG HY2.out _ _)
    have HO3 : Hid (Only Nil w W3) := Lib.hid (by
      rw [← hW']
      have : Only (fun k => k = Y) w (W2.setCell ⟨Y, 8, none⟩ (.int .i64 3)) := (HO2.out.mono (T := fun k => k = Y) (fun _ _ h => h.elim)).setCell (p := ⟨Y, 8, none⟩) (.inl rfl) _
      exact this.mono (fun k hk e => by omega))
    clear hW hW' y8 yf yl HY2 HT2 HG2 HO2
    have g9 := blk_cell (HG.out.nil HO3.out) 9
    have gl := blk_lt (HG.out.nil HO3.out)
    simp only [List.getElem?_toArray, List.getElem?_cons_zero, List.getElem?_cons_succ] at g9
    have HB0 : Hid (({ b with high := 0, seq := 0 } : Bk).ok) := Lib.hid ⟨Hb.out.cap, Hb.out.meet, ⟨by simp, by simp⟩, ⟨by simp, by simp⟩, Hb.out.buys, Hb.out.sells, Hb.out.one, Hb.out.room⟩
    have HC0 : Hid (Cg.ok ({ b with high := 0, seq := 0 } : Bk) { c with kind := 3 }) := Lib.hid ⟨Hc.out.side, ⟨by simp, by simp⟩, Hc.out.left, Hc.out.id, Hc.out.mem, Hc.out.typ, Hc.out.price, Hc.out.zero, Hc.out.peak, Hc.out.ids, Hc.out.shows, Hc.out.empty, fun h => by simp at h⟩
    go_wp2
    clear g9 gl
    go_loopg [7, 8, 9] n (fun m v7 v8 v9 wr => ∃ (bb : Bk) (cc : Cg) (u1 u2 : Value), v7 = .int .u64 cc.left ∧ Hid (BkRep wr X bb u1 u2 (.pointer none) (.pointer none)) ∧ Hid (CgAt wr Y cc) ∧ Hid bb.ok ∧ Hid (Cg.ok bb cc) ∧ Hid (cc.kind = 3) ∧ Hid (Ends m bb cc) ∧
      Hid (wholeGo m bb cc cc.left = wholeGo n { b with high := 0, seq := 0 } { c with kind := 3 } c.left) ∧ Hid (∀ k, Mine X u1 u2 k → w.heap.size ≤ k) ∧ Hid (Only Nil w wr))
    case atStart => exact ⟨{ b with high := 0, seq := 0 }, { c with kind := 3 }, u1, u2, rfl, HT3, HY3, HB0, HC0, Lib.hid rfl, HEn, Lib.hid rfl, HTn, HO3⟩
    case round =>
      obtain ⟨bb, cc, w1, w2, rfl, HT, HY, HB, HC, HK, HE, HW, HN, HO⟩ := hrel
      obtain ⟨k, rfl⟩ := ends_pos HE.out
      go_wp2_with fail
      refine (must_any X Y bb cc w1 w2 _ _ true _ HT.out HY.out HB.out HC.out (fun h4 _ => absurd h4 (by rw [HK.out]; decide))).mono ?_
      rintro x wm ⟨rfl, ho⟩
      have HT1 := Lib.hid (HT.out.nil ho)
      have HY1 := Lib.hid (HY.out.nil ho)
      have HO1 : Hid (Only Nil w wm) := Lib.hid (HO.out.trans (S := Nil) ho (fun _ _ h => h))
      clear ho HT HY HO
      have hEk := HE.out
      have hWk := HW.out
      rw [wholeGo_succ] at hWk
      unfold Ends at hEk
      clear HE HW
      cases hm : must true bb cc with
      | none =>
        rw [hm] at hWk
        simp only at hWk
        have HR := Lib.hid hWk
        clear hWk hEk hm
        unfold mustV
        simp only
        go_upto_region 6 with (refine wpList_store_row rfl tEvt (.tmp 8) (.tmp 40) rfl _ rfl zE.row zE.row rfl _ (blk_new wm (.cells zE.row tEvt)) infoEvt rfl (one_ev _) ?_)
        generalize hW : World.setRow (World.alloc wm _) _ _ = W4
        have hW' : wm.alloc (.cells zE.row tEvt) = W4 := by rw [← hW]; exact (setRow_alloc _ _ _ _).symm
        have HO4 : Hid (Only Nil w W4) := Lib.hid (by rw [← hW']; exact HO1.out.alloc _)
        clear hW hW'
        go_wp2
        go_ret
        refine ⟨?_, HO4.out⟩
        rw [← HR.out]
        by_cases h0 : cc.left = 0 <;> simp [h0]
      | some m =>
        rw [hm] at hWk hEk
        simp only at hWk hEk
        have HWk := Lib.hid hWk
        have HEk := Lib.hid hEk
        have Hm := Lib.hid hm
        clear hWk hEk hm
        unfold mustV
        simp only
        go_upto_region 6 with (refine wpList_store_row rfl tEvt (.tmp 8) (.tmp 40) rfl _ rfl m.row zE.row rfl _ (blk_new wm (.cells zE.row tEvt)) infoEvt rfl (one_ev _) ?_)
        generalize hW : World.setRow (World.alloc wm _) _ _ = W4
        have hW' : wm.alloc (.cells m.row tEvt) = W4 := by rw [← hW]; exact (setRow_alloc _ _ _ _).symm
        have ho4 : Only Nil wm W4 := by rw [← hW']; exact (Only.refl _ _).alloc _
        have HE4 : Hid (W4.heap[wm.heap.size]? = some (.cells m.row tEvt (0, 0))) := Lib.hid (by rw [← hW']; exact blk_new _ _)
        have HT4 := Lib.hid (HT1.out.nil ho4)
        have HY4 := Lib.hid (HY1.out.nil ho4)
        have HO4 : Hid (Only Nil w W4) := Lib.hid (HO1.out.trans (S := Nil) ho4 (fun _ _ h => h))
        clear hW hW' ho4 HT1 HY1 HO1
        generalize wm.heap.size = EB at *
        obtain ⟨e0, e1, e2, e3, e4, e5, e6, e7, e8, e9, e10, e11, e12, ef, el⟩ := ev_cells HE4.out
        have y0 := blk_cell HY4.out 0
        have yl := blk_lt HY4.out
        simp only [List.getElem?_toArray, List.getElem?_cons_zero, List.getElem?_cons_succ] at y0
        by_cases hown : m.kind = 4 ∧ m.id = cc.o.id
        · have HR := HWk.out
          rw [if_pos hown] at HR
          replace HR := Lib.hid HR
          have k1 : (m.kind == 4) = true := by simp [hown.1]
          have k2 : (m.id == cc.o.id) = true := by simp [hown.2]
          clear hown HWk HEk Hm
          go_wp2
          go_ret
          refine ⟨?_, HO4.out⟩
          rw [← HR.out]
          by_cases h0 : cc.left = 0 <;> simp [h0]
        · have HR := HWk.out
          rw [if_neg hown] at HR
          have hE' := HEk.out.resolve_left hown
          obtain ⟨hl1, hl2⟩ := takes_left HB.out HC.out Hm.out hown
          have hkp := must_kept HB.out HC.out Hm.out
          have Hdue := Lib.hid (due_of HB.out HC.out Hm.out)
          have hks : (m.kind == 4) = false ∨ ((m.kind == 4) = true ∧ (m.id == cc.o.id) = false) := by
            by_cases h4 : m.kind = 4
            · exact .inr ⟨by simp [h4], by simp; exact fun h => hown ⟨h4, h⟩⟩
            · exact .inl (by simp [h4])
          have hle := HC.out.left
          have hid := takes_id bb cc m
          rw [← hl1] at HR
          have HKp := Lib.hid hkp
          have HRk := Lib.hid HR
          have HEk' := Lib.hid hE'
          have Hid' := Lib.hid hid
          have HTk := Lib.hid (fun W (hT : BkRep W X bb w1 w2 (.pointer none) (.pointer none)) (hY : CgAt W Y cc) => takes_any X Y bb cc w1 w2 _ _ m W hT hY HB.out HC.out Hdue.out)
          have hleft : (takes bb cc m).2.left = if m.kind = 3 then cc.left - m.qty else cc.left := hl1
          have HLf := Lib.hid hleft
          clear hl1 hkp hown HR hE' hid hleft HWk HEk Hm Hdue
          have h3 : ((m.kind == 3) = true ∧ m.kind = 3) ∨ ((m.kind == 3) = false ∧ m.kind ≠ 3) := by
            by_cases h : m.kind = 3
            · exact .inl ⟨by simp [h], h⟩
            · exact .inr ⟨by simp [h], h⟩
          rcases hks with k1 | ⟨k1, k2⟩ <;> rcases h3 with ⟨q1, q2⟩ | ⟨q1, q2⟩
          all_goals
            first
            | (have hq := hl2 q2
               have hwr : IntKind.u64.wrap (cc.left - m.qty) = cc.left - m.qty := by rw [IntKind.wrap_u64]; omega
               have HLq : Hid ((takes bb cc m).2.left = cc.left - m.qty) := Lib.hid (by rw [HLf.out, if_pos q2]))
            | (have HLq : Hid ((takes bb cc m).2.left = cc.left) := Lib.hid (by rw [HLf.out, if_neg q2]))
            clear hl2 q2 hle HLf
            go_wp2_with fail
            refine (HTk.out W4 HT4.out HY4.out).mono ?_
            rintro x w5 ⟨rfl, w1', w2', hx, hy, hfr, ho⟩
            have HX5 := Lib.hid hx
            have HY5 := Lib.hid hy
            have HN5 : Hid (∀ k, Mine X w1' w2' k → w.heap.size ≤ k) := Lib.hid (fun k hk => by
              rcases hfr k hk with h | h
              · exact HN.out k h
              · exact Nat.le_trans HO4.out.size h)
            have HO5 : Hid (Only Nil w w5) := Lib.hid (HO4.out.trans (S := Nil) ho (fun i hi hk => by
              rcases hk with hk | hk
              · have := HN.out i hk; omega
              · omega))
            clear hx hy hfr ho e0 e1 e2 e3 e4 e5 e6 e7 e8 e9 e10 e11 e12 ef el y0 yl HE4 HT4 HY4 HO4
            go_wp2
            go_roundg k
            case measure => omega
            case rel => exact ⟨(takes bb cc m).1, (takes bb cc m).2, w1', w2', by rw [HLq.out], HX5, HY5, Lib.hid HKp.out.ok, Lib.hid HKp.out.cg, Lib.hid (by rw [Hid'.out.2.2.1]; exact HK.out), HEk', HRk, HN5, HO5⟩
end Ck
end Go.Proofs.Ytcnkbhgdcfckoaa
