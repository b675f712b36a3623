/- The walks of the document's out, Remove, Mark. -/
import Derived.Test.YtnhedhmffgaohaaRfC
namespace Go.Proofs.Ytnhedhmffgaohaa
open Go.RowKit
namespace Rfw

/-! ### out -/
set_option maxHeartbeats 1600000 in
set_option maxRecDepth 100000 in
theorem out_at (D q i : Nat) (r : Rf) (x : Pl) (L : List Nat) (p : Rp) (w : World) (h : RfIs w D r p) (hql : L.length ≤ 65536) (hx : r.places[i]? = some x) (hL : r.queues[q]? = some L) :
    Calls Try.prog 122 #[.pointer (some ⟨D, 0, none⟩), .int .i64 q, .int .i64 i] w fun e w' => e = .returned (.tuple #[]) ∧ RStep w D p (r.out q i x L) w' := by
  obtain ⟨vp, vd, vq, rows⟩ := p
  obtain ⟨i0, hi0, hz0, hz1, hz2⟩ := info_parts infoI
  have hil := (List.getElem?_eq_some_iff.1 hx).1
  have hqlt := (List.getElem?_eq_some_iff.1 hL).1
  obtain ⟨g, c, hvp, _⟩ := h.prow hil
  simp only at hvp
  subst hvp
  obtain ⟨gq, cq, A, ca, hvq, _, hcq, _, _, hrq, hca, _, _⟩ := h.qrow hL
  simp only at hvq hrq
  subst hvq
  have hgg : g ≠ gq := fun e => own_own_ne h.p h.q (by decide) rfl (by rw [e]; rfl)
  have hgg' := hgg.symm
  have hgD : g ≠ D := ob_ne' (own_blk_ne h.p h.d (by decide))
  have hqD : gq ≠ D := ob_ne' (own_blk_ne h.q h.d (by decide))
  have hDg := hgD.symm
  have hDq := hqD.symm
  have H := Lib.hid h
  have Hx := Lib.hid hx
  have HL := Lib.hid hL
  have Hrq := Lib.hid hrq
  have facts : ∀ W, Only Nil w W → W.cell? ⟨D, 0, none⟩ = some (.slice (some ⟨g, 0, none⟩) r.places.length c) ∧ W.cell? ⟨D, 3, none⟩ = some (.slice (some ⟨gq, 0, none⟩) r.queues.length cq) ∧ W.cell? ⟨gq, q, none⟩ = some (.slice A L.length ca) ∧ D < W.heap.size ∧ gq < W.heap.size := fun W ho => by
    have h1 := H.out.nil ho
    exact ⟨h1.base.1, h1.base.2.2.2.1, own_cell h1.q Hrq.out, h1.base.2.2.2.2.2, own_lt h1.q rfl⟩
  have Facts := Lib.hid facts
  have hqlI : (q : Int) < (r.queues.length : Int) := by omega
  have hilI : (i : Int) < (r.places.length : Int) := by omega
  clear h hx hL hrq facts
  go_enter Try.func122, Try.ntmps122
  go_wp2
  have hr0 : (w.alloc (.cells #[] tI)).ownsRow 0 tI 1 (.slice (some ⟨w.heap.size, 0, none⟩) 0 0) 0 [] := World.ownsRow_lit (base := 0) (e := tI) (size := 1) w #[] 0 (Nat.zero_le _) (by unfold maxLen; omega) rfl
  have on0 : Only Nil w (w.alloc (.cells #[] tI)) := (Only.refl _ _).alloc _
  go_loopg [6, 7] (L.length) (fun m v6 v7 wr => ∃ k : Nat, k ≤ L.length ∧ m = L.length - k ∧ v7 = .int .i64 k ∧ Hid (wr.ownsRow 0 tI 1 v6 ((L.take k).filter (fun j => j != i)).length (ints ((L.take k).filter (fun j => j != i)))) ∧ Hid (∀ b, v6.ownBlock = some b → w.heap.size ≤ b) ∧ Only Nil w wr)
  case atStart => exact ⟨0, Nat.zero_le _, rfl, rfl, Lib.hid hr0, Lib.hid (fun b hb => by rw [← ob_eq hb]; exact Nat.le_refl _), on0⟩
  case round =>
    obtain ⟨k, hk, hm, rfl, hrow, hb6, hon⟩ := hrel
    obtain ⟨hD0, hD3, hqc, hDlt, hgql⟩ := Facts.out wr hon
    clear hr0 on0
    by_cases hlt : k < L.length
    · have hLk : L[k]? = some L[k] := List.getElem?_eq_getElem hlt
      have hts : L.take (k + 1) = L.take k ++ [L[k]] := by rw [List.take_succ_eq_append_getElem hlt]
      have h1 := H.out.nil hon
      obtain ⟨v0, hv0, hqrow⟩ := h1.row q L HL.out
      simp only at hv0
      rw [Hrq.out] at hv0
      injection hv0 with hv0
      subst hv0
      obtain ⟨gl, cl, e, hgl, _, _⟩ := own_row hqrow (by omega)
      injection e with e1 _ e2
      subst e1
      subst e2
      have hLc := row_get hqrow hLk
      have hfl : ((L.take k).filter (fun j => j != i)).length ≤ 65536 := by
        have h1 := List.length_filter_le (fun j => j != i) (L.take k)
        have h2 := List.length_take_le k L
        omega
      have hkI : (k : Int) < (L.length : Int) := by omega
      generalize L[k] = j at *
      by_cases hji : j = i
      · have hne : ((j : Int) != (i : Int)) = false := by simp [hji]
        have hf : (L.take (k + 1)).filter (fun j => j != i) = (L.take k).filter (fun j => j != i) := by rw [hts, List.filter_append]; simp [hji]
        have Hf := Lib.hid hf
        clear hf hts hLk h1 hqrow hji
        go_wp2
        go_roundg (L.length - (k + 1))
        case measure => omega
        case rel => exact ⟨k + 1, by omega, rfl, by go_num, by rw [Hf.out]; exact hrow, hb6, hon⟩
      · have hne : ((j : Int) != (i : Int)) = true := by simp; omega
        have hf : (L.take (k + 1)).filter (fun j => j != i) = (L.take k).filter (fun j => j != i) ++ [j] := by rw [hts, List.filter_append]; simp [hji]
        have Hf := Lib.hid hf
        clear hf hts hLk h1 hqrow hji
        go_wp2_with (at_builtin; (refine wpList_append_lies _ rfl (.tmp 33) (.tmp 44) _ rfl 0 tI i0 _ 1 8 Try.underlying22 hi0 hz0 hz1 hz2 rfl (by omega) u6 ((L.take k).filter (fun j => j != i)).length _ rfl (hrow.out.alloc _) ⟨wr.heap.size, 0, none⟩ 1 1 [.int .i64 j] rfl rfl (World.news_of_block (blk_new' _ _ _ (by simp))) (by simp [Value.oneCell']) (by omega) (by unfold maxLen; omega) (by omega) (by omega) _ rfl ?_); intro g' cap w2 hown hgrow hat hlt1)
        have hon2 : Only Nil w w2 := (hon.alloc _).grown hgrow (fun b hb hlt => by have := hb6.out b hb; omega)
        have hs1 := hon.size
        have hrow2 : w2.ownsRow 0 tI 1 (.slice (some ⟨g', 0, none⟩) (((L.take k).filter (fun j => j != i)).length + 1) cap) ((L.take (k + 1)).filter (fun j => j != i)).length (ints ((L.take (k + 1)).filter (fun j => j != i))) := by
          rw [Hf.out]; simpa [ints] using hown
        have hb2 : ∀ b, (Value.slice (some ⟨g', 0, none⟩) (((L.take k).filter (fun j => j != i)).length + 1) cap).ownBlock = some b → w.heap.size ≤ b := fun b hb => by
          have := ob_eq hb
          subst this
          rcases hat with h | h
          · exact hb6.out _ h
          · simp only [World.size_alloc] at h; omega
        have HR2 := Lib.hid hrow2
        have HB2 := Lib.hid hb2
        clear hown hgrow hat hlt1 hrow2 hb2
        go_roundg (L.length - (k + 1))
        case measure => omega
        case rel => exact ⟨k + 1, by omega, rfl, by go_num, HR2, HB2, hon2⟩
    · have he : k = L.length := by omega
      subst he
      have hfin := hrow.out
      rw [List.take_length] at hfin
      have h1 := H.out.nil hon
      have r1 := RfRep.setRow H.out Hrq.out HL.out (hon.mono (fun _ _ h => h.elim)) hfin (fun b hb => .inr (hb6.out b hb))
      obtain ⟨A6, c6, e6, hc6⟩ := own_slice hfin
      subst e6
      have hp := pl_of h1.p Hx.out
      have hn3 := hp.c3
      have hn4 := hp.c4
      have hgf : ∀ o, wr.frozen? ⟨g, o, none⟩ = false := fun o => h1.p.frozenAt o
      have hqf : ∀ o, wr.frozen? ⟨gq, o, none⟩ = false := fun o => h1.q.frozenAt o
      have hgl : g < wr.heap.size := own_lt h1.p rfl
      have r2 := r1.setP Hx.out (k := 3) (u := .int .i64 0) (x' := { x with inn := 0 }) (by omega) rfl
      have r3 := r2.setP' (r := { r with queues := r.queues.set q (L.filter fun k => k != i) }) hil (k := 4) (u := .bool false) (x' := { x with inn := 0, dead := false }) (by omega) rfl
      have R3 := Lib.hid r3
      have hO := Lib.hid hon
      have hB6 := Lib.hid hb6.out
      have Hfin := Lib.hid hfin
      clear r1 r2 r3 hp h1 hon hfin hrow
      go_wp2
      go_end0
      refine ⟨rfl, ⟨_, _, _, _⟩, R3.out, fun k hk => ?_, ?_⟩
      · rcases hk with hk | hk | hk | hk | ⟨v, hv, hk⟩
        · exact .inl (.inl hk)
        · exact .inl (.inr (.inl hk))
        · exact .inl (.inr (.inr (.inl hk)))
        · exact .inl (.inr (.inr (.inr (.inl hk))))
        · rcases List.mem_or_eq_of_mem_set hv with h1 | h1
          · exact .inl (.inr (.inr (.inr (.inr ⟨v, h1, hk⟩))))
          · subst h1
            exact .inr (hB6.out k hk)
      · exact (((hO.out.mono (fun _ _ h => h.elim)).setCell (p := ⟨gq, q, none⟩) (.inl (.inr (.inr (.inr (.inl rfl))))) _).setCell (p := ⟨g, i * 5 + 3, none⟩) (.inl (.inr (.inl rfl))) _).setCell (p := ⟨g, i * 5 + 4, none⟩) (.inl (.inr (.inl rfl))) _

/-! ### Remove, Mark -/
set_option maxHeartbeats 400000 in
set_option maxRecDepth 100000 in
theorem remove_bad (D q i l : Nat) (r : Rf) (p : Rp) (w : World) (h : RfIs w D r p) (hw : r.wf) (hi : i < 4294967296) (hg : r.good i l = false) :
    Calls Try.prog 75 #[.pointer (some ⟨D, 0, none⟩), .int .i64 q, .agg #[.int .u32 i, .int .u32 l]] w fun e w' => e = .returned (.int .i64 50) ∧ Only Nil w w' := by
  have HG := Lib.hid (fun W (ho : Only Nil w W) => good_any D i l r p.vp p.vd p.vq p.rows W (h.nil ho) hw hi)
  rw [hg] at HG
  clear h
  go_enter Try.func75, Try.ntmps75
  go_wp2_with fail
  refine (HG.out _ ((Only.refl _ _).alloc _)).mono ?_
  rintro e w1 ⟨rfl, ho⟩
  go_wp2
  go_ret
  exact ⟨rfl, ((Only.refl _ w).alloc _).trans ho (fun _ _ h => h)⟩
set_option maxHeartbeats 400000 in
set_option maxRecDepth 100000 in
theorem mark_bad (D q i l : Nat) (r : Rf) (p : Rp) (w : World) (h : RfIs w D r p) (hw : r.wf) (hi : i < 4294967296) (hg : r.good i l = false) :
    Calls Try.prog 77 #[.pointer (some ⟨D, 0, none⟩), .int .i64 q, .agg #[.int .u32 i, .int .u32 l]] w fun e w' => e = .returned (.int .i64 50) ∧ Only Nil w w' := by
  have HG := Lib.hid (fun W (ho : Only Nil w W) => good_any D i l r p.vp p.vd p.vq p.rows W (h.nil ho) hw hi)
  rw [hg] at HG
  clear h
  go_enter Try.func77, Try.ntmps77
  go_wp2_with fail
  refine (HG.out _ ((Only.refl _ _).alloc _)).mono ?_
  rintro e w1 ⟨rfl, ho⟩
  go_wp2
  go_ret
  exact ⟨rfl, ((Only.refl _ w).alloc _).trans ho (fun _ _ h => h)⟩
set_option maxHeartbeats 400000 in
set_option maxRecDepth 100000 in
theorem remove_other (D q i l : Nat) (r : Rf) (p : Rp) (w : World) (h : RfIs w D r p) (hw : r.wf) (hi : i < 4294967296) (hq : q ≤ 4194304) (hg : r.good i l = true) (hin : r.isIn q i l = false) :
    Calls Try.prog 75 #[.pointer (some ⟨D, 0, none⟩), .int .i64 q, .agg #[.int .u32 i, .int .u32 l]] w fun e w' => e = .returned (.int .i64 52) ∧ Only Nil w w' := by
  have HG := Lib.hid (fun W (ho : Only Nil w W) => good_any D i l r p.vp p.vd p.vq p.rows W (h.nil ho) hw hi)
  have HI := Lib.hid (fun W (ho : Only Nil w W) => in_any D q i l r p W (h.nil ho) hw hi hq)
  rw [hg] at HG
  rw [hin] at HI
  clear h
  go_enter Try.func75, Try.ntmps75
  go_wp2_with fail
  refine (HG.out _ ((Only.refl _ _).alloc _)).mono ?_
  rintro e w1 ⟨rfl, ho⟩
  have o1 : Only Nil w w1 := ((Only.refl _ w).alloc _).trans ho (fun _ _ h => h)
  have hbx := box_after' ho
  have hB0 := blk_cell hbx 0
  have hB1 := blk_cell hbx 1
  have hBlt := blk_lt hbx
  simp only [List.getElem?_toArray, List.getElem?_cons_zero, List.getElem?_cons_succ] at hB0 hB1
  clear hbx ho
  go_wp2_with fail
  refine (HI.out _ o1).mono ?_
  rintro e w2 ⟨rfl, ho⟩
  go_wp2
  go_ret
  exact ⟨rfl, o1.trans ho (fun _ _ h => h)⟩
set_option maxHeartbeats 400000 in
set_option maxRecDepth 100000 in
theorem mark_other (D q i l : Nat) (r : Rf) (p : Rp) (w : World) (h : RfIs w D r p) (hw : r.wf) (hi : i < 4294967296) (hq : q ≤ 4194304) (hg : r.good i l = true) (hin : r.isIn q i l = false) :
    Calls Try.prog 77 #[.pointer (some ⟨D, 0, none⟩), .int .i64 q, .agg #[.int .u32 i, .int .u32 l]] w fun e w' => e = .returned (.int .i64 52) ∧ Only Nil w w' := by
  have HG := Lib.hid (fun W (ho : Only Nil w W) => good_any D i l r p.vp p.vd p.vq p.rows W (h.nil ho) hw hi)
  have HI := Lib.hid (fun W (ho : Only Nil w W) => in_any D q i l r p W (h.nil ho) hw hi hq)
  rw [hg] at HG
  rw [hin] at HI
  clear h
  go_enter Try.func77, Try.ntmps77
  go_wp2_with fail
  refine (HG.out _ ((Only.refl _ _).alloc _)).mono ?_
  rintro e w1 ⟨rfl, ho⟩
  have o1 : Only Nil w w1 := ((Only.refl _ w).alloc _).trans ho (fun _ _ h => h)
  have hbx := box_after' ho
  have hB0 := blk_cell hbx 0
  have hB1 := blk_cell hbx 1
  have hBlt := blk_lt hbx
  simp only [List.getElem?_toArray, List.getElem?_cons_zero, List.getElem?_cons_succ] at hB0 hB1
  clear hbx ho
  go_wp2_with fail
  refine (HI.out _ o1).mono ?_
  rintro e w2 ⟨rfl, ho⟩
  go_wp2
  go_ret
  exact ⟨rfl, o1.trans ho (fun _ _ h => h)⟩
theorem box_nil {w w1 w2 : World} {o : Obj} (h : w1.heap[w.heap.size]? = some o) (ho : Only Nil w1 w2) : w2.heap[w.heap.size]? = some o := ho.blk h (fun h => h)
set_option maxHeartbeats 800000 in
set_option maxRecDepth 100000 in
theorem remove_ok (D q i l : Nat) (r : Rf) (x : Pl) (L : List Nat) (p : Rp) (w : World) (h : RfIs w D r p) (hw : r.wf) (hi : i < 4294967296) (hq : q ≤ 4194304) (hg : r.good i l = true) (hin : r.isIn q i l = true) (hx : r.places[i]? = some x) (hL : r.queues[q]? = some L) :
    Calls Try.prog 75 #[.pointer (some ⟨D, 0, none⟩), .int .i64 q, .agg #[.int .u32 i, .int .u32 l]] w fun e w' => e = .returned (.int .i64 0) ∧ RStep w D p (r.out q i x L) w' := by
  have HG := Lib.hid (fun W (ho : Only Nil w W) => good_any D i l r p.vp p.vd p.vq p.rows W (h.nil ho) hw hi)
  have HI := Lib.hid (fun W (ho : Only Nil w W) => in_any D q i l r p W (h.nil ho) hw hi hq)
  have HO := Lib.hid (fun W (ho : Only Nil w W) => out_at D q i r x L p W (h.nil ho) (hw.ql L (List.mem_of_getElem? hL)).1 hx hL)
  rw [hg] at HG
  rw [hin] at HI
  clear h
  go_enter Try.func75, Try.ntmps75
  go_wp2_with fail
  refine (HG.out _ ((Only.refl _ _).alloc _)).mono ?_
  rintro e w1 ⟨rfl, ho⟩
  have o1 : Only Nil w w1 := ((Only.refl _ w).alloc _).trans ho (fun _ _ h => h)
  have hbx := box_after' ho
  have hB0 := blk_cell hbx 0
  have hB1 := blk_cell hbx 1
  have hBlt := blk_lt hbx
  simp only [List.getElem?_toArray, List.getElem?_cons_zero, List.getElem?_cons_succ] at hB0 hB1
  have Hbx := Lib.hid hbx
  clear ho hbx
  go_wp2_with fail
  refine (HI.out _ o1).mono ?_
  rintro e w2 ⟨rfl, ho⟩
  have o2 := o1.trans ho (fun _ _ h => h)
  have hbx := box_nil Hbx.out ho
  clear hB0 hB1 hBlt
  have hB0 := blk_cell hbx 0
  have hBlt := blk_lt hbx
  simp only [List.getElem?_toArray, List.getElem?_cons_zero] at hB0
  have O2 := Lib.hid o2
  clear ho hbx o1 o2
  go_wp2_with fail
  refine (HO.out _ O2.out).mono ?_
  rintro e w3 ⟨rfl, hs⟩
  have hS := Lib.hid hs
  clear hs
  go_wp2
  go_ret
  exact ⟨rfl, RStep.of O2.out hS.out⟩
set_option maxHeartbeats 800000 in
set_option maxRecDepth 100000 in
theorem mark_ok (D q i l : Nat) (r : Rf) (x : Pl) (p : Rp) (w : World) (h : RfIs w D r p) (hw : r.wf) (hi : i < 4294967296) (hq : q ≤ 4194304) (hg : r.good i l = true) (hin : r.isIn q i l = true) (hx : r.places[i]? = some x) :
    Calls Try.prog 77 #[.pointer (some ⟨D, 0, none⟩), .int .i64 q, .agg #[.int .u32 i, .int .u32 l]] w fun e w' => e = .returned (.int .i64 0) ∧ RStep w D p { r with places := r.places.set i { x with dead := true } } w' := by
  have HG := Lib.hid (fun W (ho : Only Nil w W) => good_any D i l r p.vp p.vd p.vq p.rows W (h.nil ho) hw hi)
  have HI := Lib.hid (fun W (ho : Only Nil w W) => in_any D q i l r p W (h.nil ho) hw hi hq)
  rw [hg] at HG
  rw [hin] at HI
  obtain ⟨vp, vd, vq, rows⟩ := p
  have hlen := hw.len
  have hil := (List.getElem?_eq_some_iff.1 hx).1
  obtain ⟨g, c, hvp, _⟩ := h.prow hil
  simp only at hvp
  subst hvp
  have H := Lib.hid h
  have Hx := Lib.hid hx
  clear h hx hw hg hin
  go_enter Try.func77, Try.ntmps77
  go_wp2_with fail
  refine (HG.out _ ((Only.refl _ _).alloc _)).mono ?_
  rintro e w1 ⟨rfl, ho⟩
  have o1 : Only Nil w w1 := ((Only.refl _ w).alloc _).trans ho (fun _ _ h => h)
  have hbx := box_after' ho
  have hB0 := blk_cell hbx 0
  have hB1 := blk_cell hbx 1
  have hBlt := blk_lt hbx
  simp only [List.getElem?_toArray, List.getElem?_cons_zero, List.getElem?_cons_succ] at hB0 hB1
  have Hbx := Lib.hid hbx
  clear ho hbx
  go_wp2_with fail
  refine (HI.out _ o1).mono ?_
  rintro e w2 ⟨rfl, ho⟩
  have o2 := o1.trans ho (fun _ _ h => h)
  have hbx := box_nil Hbx.out ho
  clear hB0 hB1 hBlt
  have hB0 := blk_cell hbx 0
  have hBlt := blk_lt hbx
  simp only [List.getElem?_toArray, List.getElem?_cons_zero] at hB0
  have h1 := H.out.nil o2
  obtain ⟨hD0, _, _, _, _, hDlt⟩ := h1.base
  have hn4 := (pl_of h1.p Hx.out).c4
  have hgl : g < w2.heap.size := own_lt h1.p rfl
  have hgf : ∀ o, w2.frozen? ⟨g, o, none⟩ = false := fun o => h1.p.frozenAt o
  have hr := (h1.setP Hx.out (k := 4) (u := .bool true) (x' := { x with dead := true }) (by omega) rfl).nil (Only.refl _ _).drew
  have o3 := ((o2.mono (T := fun b => b = g) (fun _ _ h => h.elim)).setCell (p := ⟨g, i * 5 + 4, none⟩) (.inl rfl) (.bool true)).drew
  have hR := Lib.hid hr
  have O3 := Lib.hid o3
  clear h1 ho hbx o1 o2 hr o3
  go_wp2
  go_still_tail 8, (by kernel_rfl)
  change wpList _ _ _ _ _ w2.drew
  go_wp2
  go_ret
  exact ⟨rfl, ⟨_, _, _, _⟩, hR.out, fun k hk => .inl hk, O3.out.mono (fun b _ hb => by subst hb; exact .inr (.inl rfl))⟩
end Rfw
end Go.Proofs.Ytnhedhmffgaohaa
