/- The walk of the document's Push. -/
import Derived.Test.YtnhedhmffgaohaaRfC

namespace Go.Proofs.Ytnhedhmffgaohaa
open Go.RowKit
namespace Rfw

/-! ### Push -/
set_option maxHeartbeats 400000 in
set_option maxRecDepth 100000 in
theorem push_bad (D q i l : Nat) (r : Rf) (p : Rp) (w : World) (h : RfIs w D r p) (hw : r.wf) (hi : i < 4294967296) (hg : r.good i l = false) :
    Calls Try.prog 71 #[.pointer (some ⟨D, 0, none⟩), .int .i64 q, .agg #[.int .u32 i, .int .u32 l]] w fun e w' => e = .returned (.int .i64 50) ∧ Only Nil w w' := by
  have HG := Lib.hid (fun W (ho : Only Nil w W) => good_any D i l r p.vp p.vd p.vq p.rows W (h.nil ho) hw hi)
  rw [hg] at HG
  clear h
  go_enter Try.func71, Try.ntmps71
  go_wp2_with fail
  refine (HG.out _ ((Only.refl _ _).alloc _)).mono ?_
  rintro e w1 ⟨rfl, ho⟩
  go_wp2
  go_ret
  exact ⟨rfl, ((Only.refl _ w).alloc _).trans ho (fun _ _ h => h)⟩
set_option maxHeartbeats 400000 in
set_option maxRecDepth 100000 in
theorem push_queue (D q i l : Nat) (r : Rf) (x : Pl) (p : Rp) (w : World) (h : RfIs w D r p) (hw : r.wf) (hi : i < 4294967296) (hg : r.good i l = true) (hx : r.places[i]? = some x) (hin : x.inn ≠ 0) :
    Calls Try.prog 71 #[.pointer (some ⟨D, 0, none⟩), .int .i64 q, .agg #[.int .u32 i, .int .u32 l]] w fun e w' => e = .returned (.int .i64 52) ∧ Only Nil w w' := by
  have HG := Lib.hid (fun W (ho : Only Nil w W) => good_any D i l r p.vp p.vd p.vq p.rows W (h.nil ho) hw hi)
  rw [hg] at HG
  have hlen := hw.len
  have hil := (List.getElem?_eq_some_iff.1 hx).1
  have H := Lib.hid h
  have Hx := Lib.hid hx
  have hne : ((x.inn : Int) != 0) = true := by simp; omega
  clear h hx hin hg hw
  go_enter Try.func71, Try.ntmps71
  go_wp2_with fail
  refine (HG.out _ ((Only.refl _ _).alloc _)).mono ?_
  rintro e w1 ⟨rfl, ho⟩
  have o1 : Only Nil w w1 := ((Only.refl _ w).alloc _).trans ho (fun _ _ h => h)
  have h1 := H.out.nil o1
  have hbx := box_after' ho
  have hB0 := blk_cell hbx 0
  have hBlt := blk_lt hbx
  simp only [List.getElem?_toArray, List.getElem?_cons_zero] at hB0
  obtain ⟨hD0, _, _, _, _, hDlt⟩ := h1.base
  obtain ⟨g, c, hvp, hg, hc, hgD, _⟩ := h1.prow hil
  rw [hvp] at hD0
  have hp1 := h1.p
  rw [hvp] at hp1
  have hn3 := (pl_of hp1 Hx.out).c3
  clear h1 hp1 hvp ho hbx
  go_wp2
  go_quiet (fail)
  go_wp2
  go_ret
  exact ⟨rfl, o1.drewN _⟩
set_option maxHeartbeats 1600000 in
set_option maxRecDepth 100000 in
theorem push_ok (D q i l : Nat) (r : Rf) (x : Pl) (L : List Nat) (p : Rp) (w : World) (h : RfIs w D r p) (hw : r.wf) (hi : i < 4294967296) (hg : r.good i l = true) (hx : r.places[i]? = some x) (hin : x.inn = 0) (hL : r.queues[q]? = some L) :
    Calls Try.prog 71 #[.pointer (some ⟨D, 0, none⟩), .int .i64 q, .agg #[.int .u32 i, .int .u32 l]] w fun e w' => e = .returned (.int .i64 0) ∧
      RStep w D p { r with places := r.places.set i { x with inn := q + 1 }, queues := r.queues.set q (L ++ [i]) } w' := by
  have HG := Lib.hid (fun W (ho : Only Nil w W) => good_any D i l r p.vp p.vd p.vq p.rows W (h.nil ho) hw hi)
  rw [hg] at HG
  obtain ⟨vp, vd, vq, rows⟩ := p
  have hlen := hw.len
  have hqn := hw.qn
  have hql := (hw.ql L (List.mem_of_getElem? hL)).1
  have hil := (List.getElem?_eq_some_iff.1 hx).1
  have hqlt := (List.getElem?_eq_some_iff.1 hL).1
  obtain ⟨g, c, hvp, _⟩ := h.prow hil
  simp only at hvp
  subst hvp
  obtain ⟨gq, cq, A, ca, hvq, _, hcq, _, _, hrq, hca, _, _⟩ := h.qrow hL
  simp only at hvq hrq
  subst hvq
  obtain ⟨i0, hi0, hz0, hz1, hz2⟩ := info_parts infoI
  have hwr : IntKind.i64.wrap ((q : Int) + 1) = (q : Int) + 1 := IntWalk.i64_in _ (by omega)
  have hwi : IntKind.i64.wrap (i : Int) = i := IntWalk.i64_in _ (by omega)
  have H := Lib.hid h
  have Hx := Lib.hid hx
  have HL := Lib.hid hL
  have Hrq := Lib.hid hrq
  have Hin := Lib.hid hin
  clear h hx hg hw hin hL hrq
  go_enter Try.func71, Try.ntmps71
  go_wp2_with fail
  refine (HG.out _ ((Only.refl _ _).alloc _)).mono ?_
  rintro e w1 ⟨rfl, ho⟩
  have o1 : Only Nil w w1 := ((Only.refl _ w).alloc _).trans ho (fun _ _ h => h)
  have h1 := H.out.nil o1
  have hbx := box_after' ho
  have hB0 := blk_cell hbx 0
  have hBlt := blk_lt hbx
  simp only [List.getElem?_toArray, List.getElem?_cons_zero] at hB0
  obtain ⟨hD0, _, _, _, _, hDlt⟩ := h1.base
  have hn3 := (pl_of h1.p Hx.out).c3
  rw [Hin.out] at hn3
  have hgl : g < w1.heap.size := own_lt h1.p rfl
  have hgf : ∀ o, w1.frozen? ⟨g, o, none⟩ = false := fun o => h1.p.frozenAt o
  have hbg : w.heap.size ≠ g := fun e => own_blk_ne h1.p hbx (by decide) (by rw [e]; rfl)
  have O1 := Lib.hid o1
  have H1 := Lib.hid h1
  have Hbx := Lib.hid hbx
  clear h1 ho o1 hbx
  go_wp2
  go_quiet (fail)
  go_wp2
  have ha := H1.out.nil ((Only.refl Nil _).drewN nq)
  have oa := O1.out.drewN nq
  have ba := blk_drewN Hbx.out nq
  generalize w1.drewN nq = wa at *
  clear hB0 hBlt hD0 hDlt hn3 hgl hgf
  have hB0 := blk_cell ba 0
  have hBlt := blk_lt ba
  simp only [List.getElem?_toArray, List.getElem?_cons_zero] at hB0
  obtain ⟨hD0, _, _, _, _, hDlt⟩ := ha.base
  have hn3 := (pl_of ha.p Hx.out).c3
  have hgl : g < wa.heap.size := own_lt ha.p rfl
  have hgf : ∀ o, wa.frozen? ⟨g, o, none⟩ = false := fun o => ha.p.frozenAt o
  have r2 := (ha.setP Hx.out (k := 3) (u := .int .i64 ((q : Int) + 1)) (x' := { x with inn := q + 1 }) (by omega) (by simp [Pl.cells])).nil (Only.refl _ _).drew
  have o2 := ((oa.mono (T := fun b => b = g) (fun _ _ h => h.elim)).setCell (p := ⟨g, i * 5 + 3, none⟩) (.inl rfl) (.int .i64 ((q : Int) + 1))).drew
  have b2 := blk_drew (blk_far ba (p := ⟨g, i * 5 + 3, none⟩) hbg (.int .i64 ((q : Int) + 1)))
  clear ha oa ba
  go_still_tail 10, (by kernel_rfl)
  change wpList _ _ _ _ _ wa.drew
  go_step
  go_step
  generalize (wa.setCell ⟨g, i * 5 + 3, none⟩ (.int .i64 ((q : Int) + 1))).drew = w2 at *
  clear hB0 hBlt hD0 hDlt hn3 hgl hgf
  have hB0 := blk_cell b2 0
  have hBlt := blk_lt b2
  simp only [List.getElem?_toArray, List.getElem?_cons_zero] at hB0
  obtain ⟨_, _, _, hD3, _, hDlt⟩ := r2.base
  have hqc : w2.cell? ⟨gq, q, none⟩ = some (.slice A L.length ca) := own_cell r2.q Hrq.out
  have hgql : gq < w2.heap.size := own_lt r2.q rfl
  obtain ⟨v0, hv0, hrow⟩ := r2.row q L HL.out
  rw [Hrq.out] at hv0
  injection hv0 with hv0
  subst hv0
  have hAq : (Value.slice A L.length ca).ownBlock ≠ some gq := own_own_ne r2.q hrow (by decide) rfl
  have R2 := Lib.hid r2
  have O2 := Lib.hid o2
  have Hrow := Lib.hid hrow
  have HAq := Lib.hid hAq
  have hqlI : (q : Int) < (r.queues.length : Int) := by omega
  clear r2 o2 b2 hrow hAq
  go_wp2
  go_region_law
    ((refine step_append_lies _ (by rfl) _ _ _ (by rfl) 0 tI i0 _ 1 8 Try.underlying22 hi0 hz0 hz1 hz2 rfl (by omega) (.slice A L.length ca) L.length _ (by rfl) ((Hrow.out.alloc _).drew)
        ⟨w2.heap.size, 0, none⟩ 1 1 [.int .i64 i] (by rfl) (by rfl) (World.news_of_block (cs := #[.int .i64 i]) (t := tI) (fr := (0, 0)) (heap_alloc_new w2 _)) (by simp [Value.oneCell'])
        (by omega) (by unfold maxLen; omega) (by omega) (by omega) (w2.heap.size + 1) (by simp) ?_; intro f cap w3 hown3 hgrow hat hlt; have ho3 := (Only.refl (fun b => (Value.slice A L.length ca).ownBlock = some b) _).grown hgrow (fun k hk _ => hk); have hq3 := only_own ((R2.out.q.alloc (.cells #[.int .i64 i] tI)).drew) ho3 (fun b hb e => HAq.out (by rw [ob_eq hb]; exact e)); have hqc3 : w3.cell? ⟨gq, q, none⟩ = some (.slice A L.length ca) := own_cell hq3 Hrq.out; have hqf3 : w3.frozen? ⟨gq, q, none⟩ = false := hq3.frozenAt q; have hql3 : gq < w3.heap.size := own_lt hq3 rfl; have hd3 := ho3.blk (blk_drew (blk_alloc R2.out.d (.cells #[.int .i64 i] tI))) (own_blk_ne Hrow.out R2.out.d (by decide)); have hD33 := blk_cell hd3 3; have hDl3 := blk_lt hd3; simp only [List.getElem?_toArray, List.getElem?_cons_zero, List.getElem?_cons_succ] at hD33; clear hd3))
  all_goals
    go_wp2
    go_ret
    have ho3 := (Only.refl (fun b => (Value.slice A L.length ca).ownBlock = some b) _).grown hgrow (fun k hk _ => hk)
    have hs2 := O2.out.size
    have r4 := RfRep.setRow (l' := L ++ [i]) (v' := .slice (some ⟨f, 0, none⟩) (L.length + 1) cap) (R2.out.nil (((Only.refl Nil _).alloc (.cells #[.int .i64 i] tI)).drew)) Hrq.out HL.out ho3 (by simpa [ints] using hown3) (fun b hb => by
      have : f = b := by simpa [Value.ownBlock] using hb
      subst this
      rcases hat with e | e
      · exact .inl e
      · right; simp; omega)
    refine ⟨rfl, ⟨_, _, _, _⟩, r4, fun k hk => ?_, ?_⟩
    · rcases hk with hk | hk | hk | hk | ⟨v, hv, hk⟩
      · exact .inl (.inl hk)
      · exact .inl (.inr (.inl hk))
      · exact .inl (.inr (.inr (.inl hk)))
      · exact .inl (.inr (.inr (.inr (.inl hk))))
      · rcases List.mem_or_eq_of_mem_set hv with h1 | h1
        · exact .inl (.inr (.inr (.inr (.inr ⟨v, h1, hk⟩))))
        · subst h1
          have : f = k := by simpa [Value.ownBlock] using hk
          subst this
          rcases hat with e | e
          · exact .inl (.inr (.inr (.inr (.inr ⟨_, List.mem_of_getElem? Hrq.out, e⟩))))
          · right; omega
    · have o3 := ((O2.out.alloc (.cells #[.int .i64 i] tI)).drew).mono (T := RfD D (.slice (some ⟨g, 0, none⟩) r.places.length c) vd (.slice (some ⟨gq, 0, none⟩) r.queues.length cq) rows) (fun b _ hb => by subst hb; exact .inr (.inl rfl))
      exact (o3.grown hgrow (fun k hk _ => .inr (.inr (.inr (.inr ⟨_, List.mem_of_getElem? Hrq.out, hk⟩))))).setCell (p := ⟨gq, q, none⟩) (.inl (.inr (.inr (.inr (.inl rfl))))) _
end Rfw
end Go.Proofs.Ytnhedhmffgaohaa
