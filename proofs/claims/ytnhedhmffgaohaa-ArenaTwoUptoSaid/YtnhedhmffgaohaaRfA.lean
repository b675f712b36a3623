/- The walks of the document's New, gives, Take, Drop, Get, Set, Len, Queue. -/
import Derived.Test.YtnhedhmffgaohaaRfS
import Derived.Deep.RegionLaw
namespace Go.Proofs.Ytnhedhmffgaohaa
open Go.RowKit
namespace Rfw

theorem infoP : (Try.prog.info? tP).map (fun i => (i.zero, i.size, i.bytes)) = some (some (.agg #[.int .u32 0, .bool false, .int .i64 0, .int .i64 0, .bool false]), 5, 32) := by kernel_rfl
theorem infoI : (Try.prog.info? tI).map (fun i => (i.zero, i.size, i.bytes)) = some (some (.int .i64 0), 1, 8) := by kernel_rfl
theorem infoS : (Try.prog.info? tS).map (fun i => (i.zero, i.size, i.bytes)) = some (some (.slice none 0 0), 1, 24) := by kernel_rfl

/-! ### New -/
set_option maxHeartbeats 400000 in
theorem new_bad (room : Int) (w : World) (h : room < 1 ∨ 65536 < room) (h2 : -9223372036854775808 ≤ room) (h3 : room ≤ 9223372036854775807) :
    Calls Try.prog 33 #[.int .i64 room] w fun e w' => e = .returned (.tuple #[.pointer none, .int .i64 1]) ∧ w' = w := by
  by_cases h1 : room < 1
  · go_enter Try.func33, Try.ntmps33
    go_wp2
    go_ret2
    exact ⟨rfl, rfl⟩
  · have h4 : 65536 < room := by omega
    clear h
    go_enter Try.func33, Try.ntmps33
    go_wp2
    go_ret2
    exact ⟨rfl, rfl⟩
theorem made_pl (n : Nat) : (madeCells (Value.agg #[.int .u32 0, .bool false, .int .i64 0, .int .i64 0, .bool false]).cells (n * 5)).toList = (List.replicate n pl0).flatMap Pl.cells := by
  apply List.ext_getElem?
  intro j
  by_cases hj : j < n * 5
  · have hx : (List.replicate n pl0)[j / 5]? = some pl0 := by rw [List.getElem?_replicate, if_pos (by omega)]
    have h1 := lay_get (enc := Pl.cells) (m := 5) (fun a _ => a.len) hx (k := j % 5) (by omega)
    rw [show j / 5 * 5 + j % 5 = j by omega] at h1
    rw [h1]
    have h2 : j % 5 = 0 ∨ j % 5 = 1 ∨ j % 5 = 2 ∨ j % 5 = 3 ∨ j % 5 = 4 := by omega
    rcases h2 with h2 | h2 | h2 | h2 | h2 <;> simp [madeCells, hj, Value.cells, h2, Pl.cells, pl0]
  · rw [List.getElem?_eq_none (by simp [madeCells]; omega), List.getElem?_eq_none (by rw [lay_length (enc := Pl.cells) (m := 5) (fun a _ => a.len)]; simp; omega)]
set_option maxHeartbeats 400000 in
set_option maxRecDepth 100000 in
theorem new_ok (room : Nat) (w : World) (h : 1 ≤ room) (h2 : room ≤ 65536) :
    Calls Try.prog 33 #[.int .i64 room] w fun e w' => ∃ D, e = .returned (.tuple #[.pointer (some ⟨D, 0, none⟩), .int .i64 0]) ∧ ∃ p, RfIs w' D ⟨List.replicate room pl0, [], 0, []⟩ p ∧ (∀ k, p.D D k → w.heap.size ≤ k) ∧ Only Nil w w' := by
  have h3 : ¬ ((room : Int) < 1) := by omega
  have h4 : ¬ (65536 < (room : Int)) := by omega
  obtain ⟨i0, hi0, hz0, hz1, hz2⟩ := info_parts infoP
  go_enter Try.func33, Try.ntmps33
  go_wp2_with (refine wpList_make_full _ rfl (.tmp 10) (.tmp 10) 131 rfl 0 tP i0 _ 5 Try.underlying131 hi0 hz0 hz1 .i64 .i64 (room : Int) (room : Int) room rfl rfl rfl rfl (by rw [hz2]; omega) (by unfold maxLen; omega) (by omega) ?_; intro w1 hown hgrow)
  rw [made_pl] at hown
  have hon : Only Nil w w1 := (Only.refl Nil w).grown hgrow (fun k hk => by cases hk)
  have hs := hon.size
  refine bodyPost_ret (v := .tuple #[.pointer (some ⟨w1.heap.size, 0, none⟩), .int .i64 0]) (by simp [results, Try.results33, go_sem]) rfl ?_
  refine ⟨w1.heap.size, rfl, ⟨.slice (some ⟨w.heap.size, 0, none⟩) room room, .slice none 0 0, .slice none 0 0, []⟩, ⟨blk_new w1 _, ?_, own_nil _ _ _ _, own_nil _ _ _ _, fun j l hl => by simp at hl, fun j k v v' hv => by simp at hv, fun v hv => by simp at hv⟩, ?_, hon.alloc _⟩
  · have := hown.alloc (.cells #[.slice (some ⟨w.heap.size, 0, none⟩) room room, .slice none 0 0, .int .i64 0, .slice none 0 0] tR)
    simpa using this
  · rintro k (hk | hk | hk | hk | ⟨v, hv, _⟩)
    · subst hk; exact hs
    · have : w.heap.size = k := by simpa [Value.ownBlock] using hk
      omega
    · simp [Value.ownBlock] at hk
    · simp [Value.ownBlock] at hk
    · simp at hv

/-! ### gives -/
set_option maxHeartbeats 800000 in
set_option maxRecDepth 100000 in
theorem gives_at (D i : Nat) (r : Rf) (x : Pl) (p : Rp) (w : World) (h : RfIs w D r p) (hlen : r.places.length ≤ 65536) (hdl : r.dropped.length ≤ 65536) (hx : r.places[i]? = some x) :
    Calls Try.prog 116 #[.pointer (some ⟨D, 0, none⟩), .int .i64 i] w fun e w' => e = .returned (.tuple #[]) ∧ RStep w D p (r.gives i x) w' := by
  obtain ⟨vp, vd, vq, rows⟩ := p
  have hi := (List.getElem?_eq_some_iff.1 hx).1
  obtain ⟨hD0, hD1, _, _, hDf, hDlt⟩ := h.base
  obtain ⟨g, c, hvp, hg, hc, hgD, hgf⟩ := h.prow hi
  simp only at hvp
  subst hvp
  have hDg := hgD.symm
  have hp := pl_of h.p hx
  have hn0 := hp.c0
  have hn1 := hp.c1
  have hn2 := hp.c2
  have hn3 := hp.c3
  have hn4 := hp.c4
  obtain ⟨F, fc, hvd, hfc⟩ := own_slice h.f
  simp only at hvd
  subst hvd
  obtain ⟨i0, hi0, hz0, hz1, hz2⟩ := info_parts infoI
  have hwr : IntKind.i64.wrap (i : Int) = i := IntWalk.i64_in _ (by omega)
  have R5 := (h.setP5 hx x.gone).nil (Only.refl _ _).drew
  have o5 : Only (fun b => b = g) w (((((w.setCell ⟨g, i * 5, none⟩ (.int .u32 (x.gone.life : Int))).setCell ⟨g, i * 5 + 1, none⟩ (.bool x.gone.taken)).setCell ⟨g, i * 5 + 2, none⟩ (.int .i64 x.gone.value)).setCell ⟨g, i * 5 + 3, none⟩ (.int .i64 (x.gone.inn : Int))).setCell ⟨g, i * 5 + 4, none⟩ (.bool x.gone.dead)).drew :=
    ((((((Only.refl (fun b => b = g) w).setCell (p := ⟨g, i * 5, none⟩) (.inl rfl) _).setCell (p := ⟨g, i * 5 + 1, none⟩) (.inl rfl) _).setCell (p := ⟨g, i * 5 + 2, none⟩) (.inl rfl) _).setCell (p := ⟨g, i * 5 + 3, none⟩) (.inl rfl) _).setCell (p := ⟨g, i * 5 + 4, none⟩) (.inl rfl) _).drew
  simp only [Pl.gone, Int.natCast_zero] at R5 o5
  have H := Lib.hid h
  clear h hp
  go_enter Try.func116, Try.ntmps116
  go_wp2
  go_still_tail 15, (by kernel_rfl)
  change wpList _ _ _ _ _ w.drew
  go_step
  go_step
  generalize (((((w.setCell ⟨g, i * 5, none⟩ (.int .u32 (x.life : Int))).setCell ⟨g, i * 5 + 1, none⟩ (.bool false)).setCell ⟨g, i * 5 + 2, none⟩ (.int .i64 0)).setCell ⟨g, i * 5 + 3, none⟩ (.int .i64 0)).setCell ⟨g, i * 5 + 4, none⟩ (.bool false)).drew = w5 at *
  clear hD0 hD1 hDf hDlt hn0 hn1 hn2 hn3 hn4 hg hgf
  obtain ⟨hD0, hD1, _, _, hDf, hDlt⟩ := R5.base
  have hR5 := Lib.hid R5
  have hO5 := Lib.hid o5
  clear R5 o5
  go_wp2_with (at_builtin; (refine wpList_append_lies _ rfl (.tmp 23) (.tmp 25) _ rfl 0 tI i0 _ 1 8 Try.underlying22 hi0 hz0 hz1 hz2 rfl (by omega) (.slice F r.dropped.length fc) r.dropped.length (ints r.dropped) rfl (hR5.out.f.alloc _) ⟨w5.heap.size, 0, none⟩ 1 1 [.int .i64 i] rfl rfl (World.news_of_block (blk_new' _ _ _ (by simp))) (by simp [Value.oneCell']) (by omega) (by unfold maxLen; omega) (by omega) (by omega) _ rfl ?_); intro f cap w1 hown hgrow hat hlt; have hd1 := blk_grown (blk_alloc hR5.out.d (.cells #[.int .i64 i] tI)) hgrow (own_blk_ne hR5.out.f hR5.out.d (by decide)); have hE1 := blk_cell hd1 1; have hEf := blk_frozen hd1 1; have hElt := blk_lt hd1; simp only [List.getElem?_toArray, List.getElem?_cons_zero, List.getElem?_cons_succ] at hE1)
  go_end0
  refine ⟨rfl, ?_⟩
  have ho1 := (Only.refl (fun b => (Value.slice F r.dropped.length fc).ownBlock = some b) _).grown hgrow (fun k hk _ => hk)
  have hs5 := hO5.out.size
  have r6 := (hR5.out.nil ((Only.refl _ _).alloc (.cells #[.int .i64 i] tI))).setD (l' := r.dropped ++ [i]) ho1 (vd' := .slice (some ⟨f, 0, none⟩) (r.dropped.length + 1) cap) (by simpa [ints] using hown) (fun b hb => by
    have : f = b := by simpa [Value.ownBlock] using hb
    subst this
    rcases hat with e | e
    · exact .inl e
    · right; simp at e ⊢; omega)
  refine ⟨⟨_, _, _, _⟩, r6, fun k hk => ?_, ?_⟩
  · rcases hk with hk | hk | hk | hk | hk
    · exact .inl (.inl hk)
    · exact .inl (.inr (.inl hk))
    · have : f = k := by simpa [Value.ownBlock] using hk
      subst this
      rcases hat with e | e
      · exact .inl (.inr (.inr (.inl e)))
      · right; simp at e; omega
    · exact .inl (.inr (.inr (.inr (.inl hk))))
    · exact .inl (.inr (.inr (.inr (.inr hk))))
  · have o6 := (hO5.out.alloc (.cells #[.int .i64 i] tI)).mono (T := RfD D (.slice (some ⟨g, 0, none⟩) r.places.length c) (.slice F r.dropped.length fc) vq rows) (fun b _ hb => by subst hb; exact .inr (.inl rfl))
    exact (o6.grown hgrow (fun k hk _ => .inr (.inr (.inl hk)))).setCell (p := ⟨D, 1, none⟩) (.inl (.inl rfl)) _

/-! ### Drop -/
set_option maxHeartbeats 400000 in
set_option maxRecDepth 100000 in
theorem drop_bad (D i l : Nat) (r : Rf) (p : Rp) (w : World) (h : RfIs w D r p) (hw : r.wf) (hi : i < 4294967296) (hg : r.good i l = false) :
    Calls Try.prog 64 #[.pointer (some ⟨D, 0, none⟩), .agg #[.int .u32 i, .int .u32 l]] w fun e w' => e = .returned (.int .i64 50) ∧ Only Nil w w' := by
  have HG := Lib.hid (fun W (ho : Only Nil w W) => good_any D i l r p.vp p.vd p.vq p.rows W (h.nil ho) hw hi)
  rw [hg] at HG
  clear h
  go_enter Try.func64, Try.ntmps64
  go_wp2_with fail
  refine (HG.out _ ((Only.refl _ _).alloc _)).mono ?_
  rintro e w1 ⟨rfl, ho⟩
  go_wp2
  go_ret
  exact ⟨rfl, ((Only.refl _ w).alloc _).trans ho (fun _ _ h => h)⟩
set_option maxHeartbeats 400000 in
set_option maxRecDepth 100000 in
theorem drop_queue (D i l : Nat) (r : Rf) (x : Pl) (p : Rp) (w : World) (h : RfIs w D r p) (hw : r.wf) (hi : i < 4294967296) (hg : r.good i l = true) (hx : r.places[i]? = some x) (hin : x.inn ≠ 0) :
    Calls Try.prog 64 #[.pointer (some ⟨D, 0, none⟩), .agg #[.int .u32 i, .int .u32 l]] w fun e w' => e = .returned (.int .i64 52) ∧ Only Nil w w' := by
  have HG := Lib.hid (fun W (ho : Only Nil w W) => good_any D i l r p.vp p.vd p.vq p.rows W (h.nil ho) hw hi)
  rw [hg] at HG
  have hlen := hw.len
  have hil := (List.getElem?_eq_some_iff.1 hx).1
  have H := Lib.hid h
  have Hx := Lib.hid hx
  have hne : ((x.inn : Int) != 0) = true := by simp; omega
  clear h hx hin hg hw
  go_enter Try.func64, Try.ntmps64
  go_wp2_with fail
  refine (HG.out _ ((Only.refl _ _).alloc _)).mono ?_
  rintro e w1 ⟨rfl, ho⟩
  have o1 : Only Nil w w1 := ((Only.refl _ w).alloc _).trans ho (fun _ _ h => h)
  have h1 := H.out.nil o1
  have hbx := box_after' ho
  have hB0 := blk_cell hbx 0
  have hBlt := blk_lt hbx
  simp only [List.getElem?_toArray, List.getElem?_cons_zero] at hB0
  obtain ⟨hD0, _, _, _, _, hDlt⟩ := h1.base
  obtain ⟨g, c, hvp, hg, hc, hgD, _⟩ := h1.prow hil
  rw [hvp] at hD0
  have hp1 := h1.p
  rw [hvp] at hp1
  have hn3 := (pl_of hp1 Hx.out).c3
  clear h1 hp1 hvp ho hbx
  go_wp2
  go_quiet (fail)
  go_wp2
  go_ret
  exact ⟨rfl, o1.drewN _⟩
set_option maxHeartbeats 800000 in
set_option maxRecDepth 100000 in
theorem drop_ok (D i l : Nat) (r : Rf) (x : Pl) (p : Rp) (w : World) (h : RfIs w D r p) (hw : r.wf) (hi : i < 4294967296) (hg : r.good i l = true) (hx : r.places[i]? = some x) (hin : x.inn = 0) :
    Calls Try.prog 64 #[.pointer (some ⟨D, 0, none⟩), .agg #[.int .u32 i, .int .u32 l]] w fun e w' => e = .returned (.int .i64 0) ∧ RStep w D p (r.gives i x) w' := by
  have HG := Lib.hid (fun W (ho : Only Nil w W) => good_any D i l r p.vp p.vd p.vq p.rows W (h.nil ho) hw hi)
  rw [hg] at HG
  have HV := Lib.hid (fun W (ho : Only Nil w W) => gives_at D i r x p W (h.nil ho) hw.len (Nat.le_trans hw.dl hw.len) hx)
  have hlen := hw.len
  have hil := (List.getElem?_eq_some_iff.1 hx).1
  have H := Lib.hid h
  have Hx := Lib.hid hx
  clear h hx hg hw
  go_enter Try.func64, Try.ntmps64
  go_wp2_with fail
  refine (HG.out _ ((Only.refl _ _).alloc _)).mono ?_
  rintro e w1 ⟨rfl, ho⟩
  have o1 : Only Nil w w1 := ((Only.refl _ w).alloc _).trans ho (fun _ _ h => h)
  have h1 := H.out.nil o1
  have hbx := box_after' ho
  have hB0 := blk_cell hbx 0
  have hBlt := blk_lt hbx
  simp only [List.getElem?_toArray, List.getElem?_cons_zero] at hB0
  obtain ⟨hD0, _, _, _, _, hDlt⟩ := h1.base
  obtain ⟨g, c, hvp, hg, hc, hgD, _⟩ := h1.prow hil
  rw [hvp] at hD0
  have hp1 := h1.p
  rw [hvp] at hp1
  have hn3 := (pl_of hp1 Hx.out).c3
  rw [hin] at hn3
  have O1 := Lib.hid o1
  clear h1 hp1 hvp ho hbx hin o1
  go_wp2
  go_quiet (fail)
  go_wp2_with fail
  refine (HV.out _ (O1.out.drewN _)).mono ?_
  rintro e w2 ⟨rfl, hs⟩
  have hS := Lib.hid hs
  clear hs
  go_wp2
  go_ret
  exact ⟨rfl, RStep.of (O1.out.drewN _) hS.out⟩

/-! ### Get, Set -/
set_option maxHeartbeats 400000 in
set_option maxRecDepth 100000 in
theorem get_bad (D i l : Nat) (r : Rf) (p : Rp) (w : World) (h : RfIs w D r p) (hw : r.wf) (hi : i < 4294967296) (hg : r.good i l = false) :
    Calls Try.prog 35 #[.pointer (some ⟨D, 0, none⟩), .agg #[.int .u32 i, .int .u32 l]] w fun e w' => e = .returned (.tuple #[.int .i64 0, .int .i64 50]) ∧ Only Nil w w' := by
  have HG := Lib.hid (fun W (ho : Only Nil w W) => good_any D i l r p.vp p.vd p.vq p.rows W (h.nil ho) hw hi)
  rw [hg] at HG
  clear h
  go_enter Try.func35, Try.ntmps35
  go_wp2_with fail
  refine (HG.out _ ((Only.refl _ _).alloc _)).mono ?_
  rintro e w1 ⟨rfl, ho⟩
  go_wp2
  go_ret2
  exact ⟨rfl, ((Only.refl _ w).alloc _).trans ho (fun _ _ h => h)⟩
set_option maxHeartbeats 400000 in
set_option maxRecDepth 100000 in
theorem get_ok (D i l : Nat) (r : Rf) (x : Pl) (p : Rp) (w : World) (h : RfIs w D r p) (hw : r.wf) (hi : i < 4294967296) (hg : r.good i l = true) (hx : r.places[i]? = some x) :
    Calls Try.prog 35 #[.pointer (some ⟨D, 0, none⟩), .agg #[.int .u32 i, .int .u32 l]] w fun e w' => e = .returned (.tuple #[.int .i64 x.value, .int .i64 0]) ∧ Only Nil w w' := by
  have HG := Lib.hid (fun W (ho : Only Nil w W) => good_any D i l r p.vp p.vd p.vq p.rows W (h.nil ho) hw hi)
  rw [hg] at HG
  have hlen := hw.len
  have hil := (List.getElem?_eq_some_iff.1 hx).1
  have H := Lib.hid h
  have Hx := Lib.hid hx
  clear h hx hg hw
  go_enter Try.func35, Try.ntmps35
  go_wp2_with fail
  refine (HG.out _ ((Only.refl _ _).alloc _)).mono ?_
  rintro e w1 ⟨rfl, ho⟩
  have o1 : Only Nil w w1 := ((Only.refl _ w).alloc _).trans ho (fun _ _ h => h)
  have h1 := H.out.nil o1
  have hbx := box_after' ho
  have hB0 := blk_cell hbx 0
  have hBlt := blk_lt hbx
  simp only [List.getElem?_toArray, List.getElem?_cons_zero] at hB0
  obtain ⟨hD0, _, _, _, _, hDlt⟩ := h1.base
  obtain ⟨g, c, hvp, hg, hc, hgD, _⟩ := h1.prow hil
  rw [hvp] at hD0
  have hp1 := h1.p
  rw [hvp] at hp1
  have hn2 := (pl_of hp1 Hx.out).c2
  clear h1 hp1 hvp ho hbx
  go_wp2
  go_quiet (fail)
  go_wp2
  go_ret2
  exact ⟨rfl, o1.drewN _⟩
set_option maxHeartbeats 400000 in
set_option maxRecDepth 100000 in
theorem set_bad (D i l : Nat) (n : Int) (r : Rf) (p : Rp) (w : World) (h : RfIs w D r p) (hw : r.wf) (hi : i < 4294967296) (hg : r.good i l = false) :
    Calls Try.prog 66 #[.pointer (some ⟨D, 0, none⟩), .agg #[.int .u32 i, .int .u32 l], .int .i64 n] w fun e w' => e = .returned (.int .i64 50) ∧ Only Nil w w' := by
  have HG := Lib.hid (fun W (ho : Only Nil w W) => good_any D i l r p.vp p.vd p.vq p.rows W (h.nil ho) hw hi)
  rw [hg] at HG
  clear h
  go_enter Try.func66, Try.ntmps66
  go_wp2_with fail
  refine (HG.out _ ((Only.refl _ _).alloc _)).mono ?_
  rintro e w1 ⟨rfl, ho⟩
  go_wp2
  go_ret
  exact ⟨rfl, ((Only.refl _ w).alloc _).trans ho (fun _ _ h => h)⟩
set_option maxHeartbeats 800000 in
set_option maxRecDepth 100000 in
theorem set_ok (D i l : Nat) (n : Int) (r : Rf) (x : Pl) (p : Rp) (w : World) (h : RfIs w D r p) (hw : r.wf) (hi : i < 4294967296) (hg : r.good i l = true) (hx : r.places[i]? = some x) :
    Calls Try.prog 66 #[.pointer (some ⟨D, 0, none⟩), .agg #[.int .u32 i, .int .u32 l], .int .i64 n] w fun e w' => e = .returned (.int .i64 0) ∧ RStep w D p { r with places := r.places.set i { x with value := n } } w' := by
  have HG := Lib.hid (fun W (ho : Only Nil w W) => good_any D i l r p.vp p.vd p.vq p.rows W (h.nil ho) hw hi)
  rw [hg] at HG
  obtain ⟨vp, vd, vq, rows⟩ := p
  have hlen := hw.len
  have hil := (List.getElem?_eq_some_iff.1 hx).1
  obtain ⟨g, c, hvp, _⟩ := h.prow hil
  simp only at hvp
  subst hvp
  have H := Lib.hid h
  have Hx := Lib.hid hx
  clear h hx hg hw
  go_enter Try.func66, Try.ntmps66
  go_wp2_with fail
  refine (HG.out _ ((Only.refl _ _).alloc _)).mono ?_
  rintro e w1 ⟨rfl, ho⟩
  have o1 : Only Nil w w1 := ((Only.refl _ w).alloc _).trans ho (fun _ _ h => h)
  have h1 := H.out.nil o1
  have hbx := box_after' ho
  have hB0 := blk_cell hbx 0
  have hBlt := blk_lt hbx
  simp only [List.getElem?_toArray, List.getElem?_cons_zero] at hB0
  obtain ⟨hD0, _, _, _, _, hDlt⟩ := h1.base
  have hn2 := (pl_of h1.p Hx.out).c2
  have hgl : g < w1.heap.size := own_lt h1.p rfl
  have hgf : ∀ o, w1.frozen? ⟨g, o, none⟩ = false := fun o => h1.p.frozenAt o
  have hr := (h1.setP Hx.out (k := 2) (u := .int .i64 n) (x' := { x with value := n }) (by omega) rfl).nil (Only.refl _ _).drew
  have o2 := ((o1.mono (T := fun b => b = g) (fun _ _ h => h.elim)).setCell (p := ⟨g, i * 5 + 2, none⟩) (.inl rfl) (.int .i64 n)).drew
  have hR := Lib.hid hr
  have O2 := Lib.hid o2
  clear h1 ho hbx o1 hr o2
  go_wp2
  go_still_tail 9, (by kernel_rfl)
  change wpList _ _ _ _ _ w1.drew
  go_wp2
  go_ret
  exact ⟨rfl, ⟨_, _, _, _⟩, hR.out, fun k hk => .inl hk, O2.out.mono (fun b _ hb => by subst hb; exact .inr (.inl rfl))⟩
end Rfw
end Go.Proofs.Ytnhedhmffgaohaa
