/- The walks of the document's Take. (take_new, take_old are printed by wip/gen/reftake.py.) -/
import Derived.Test.YtnhedhmffgaohaaRfA
namespace Go.Proofs.Ytnhedhmffgaohaa
open Go.RowKit
namespace Rfw

/-! ### Take -/
set_option maxHeartbeats 800000 in
set_option maxRecDepth 100000 in
theorem take_full (D : Nat) (n : Int) (r : Rf) (p : Rp) (w : World) (h : RfIs w D r p) (hw : r.wf) (hd : r.dropped = []) (he : r.places.length ≤ r.ever) :
    Calls Try.prog 34 #[.pointer (some ⟨D, 0, none⟩), .int .i64 n] w fun e w' => e = .returned (.tuple #[.agg #[.int .u32 0, .int .u32 0], .int .i64 51]) ∧ Only Nil w w' := by
  obtain ⟨vp, vd, vq, rows⟩ := p
  have hlen := hw.len
  have hev := hw.ev
  obtain ⟨hD0, hD1, hD2, _, _, hDlt⟩ := h.base
  obtain ⟨A, c, hvp, hc⟩ := own_slice h.p
  obtain ⟨F, fc, hvd, hfc⟩ := own_slice h.f
  rw [hd] at hvd
  simp only [List.length_nil] at hvp hvd
  subst hvp
  subst hvd
  clear h hw
  have hlt : ¬ ((r.ever : Int) < (r.places.length : Int)) := by omega
  have hlt' : ¬ (r.ever < r.places.length) := by omega
  go_enter Try.func34, Try.ntmps34
  go_wp2
  go_quiet (fail)
  go_wp2
  refine bodyPost_ret (v := .tuple #[.agg #[.int .u32 0, .int .u32 0], .int .i64 51]) (by simp [results, Try.results34, go_sem]) rfl ⟨rfl, ?_⟩
  exact ((((Only.refl Nil w).alloc _).drewN _).setCell (p := ⟨w.heap.size, 0, none⟩) (.inr (Nat.le_refl _)) _).setCell (p := ⟨w.heap.size, 1, none⟩) (.inr (Nat.le_refl _)) _

set_option maxHeartbeats 1600000 in
set_option maxRecDepth 100000 in
theorem take_new (D : Nat) (n : Int) (r : Rf) (x : Pl) (p : Rp) (w : World) (h : RfIs w D r p) (hw : r.wf) (hd : r.dropped = []) (hx : r.places[r.ever]? = some x) :
    Calls Try.prog 34 #[.pointer (some ⟨D, 0, none⟩), .int .i64 n] w fun e w' => e = .returned (.tuple #[.agg #[.int .u32 r.ever, .int .u32 (((x.life : Int) + 1) % 4294967296)], .int .i64 0]) ∧
      RStep w D p { r with ever := r.ever + 1, places := r.places.set r.ever ⟨(x.life + 1) % 4294967296, true, n, 0, false⟩ } w' := by
  obtain ⟨vp, vd, vq, rows⟩ := p
  have hi := (List.getElem?_eq_some_iff.1 hx).1
  have hlen := hw.len
  have hev := hw.ev
  have hlife := hw.life x (List.mem_of_getElem? hx)
  obtain ⟨hD0, hD1, hD2, _, hDf, hDlt⟩ := h.base
  obtain ⟨g, c, hvp, hg, hc, hgD, _⟩ := h.prow hi
  obtain ⟨F, fc, hvd, hfc⟩ := own_slice h.f
  rw [hd] at hvd
  simp only [List.length_nil] at hvp hvd
  subst hvp
  subst hvd
  have hDg := hgD.symm
  have hcast : (((x.life + 1) % 4294967296 : Nat) : Int) = ((x.life : Int) + 1) % 4294967296 := by omega
  have H := Lib.hid h
  have hlt : (r.ever : Int) < (r.places.length : Int) := by omega
  clear h hw hd
  go_enter Try.func34, Try.ntmps34
  go_wp2
  go_quiet (fail)
  go_wp2
  have hDb : D ≠ w.heap.size := by omega
  have R1 := (H.out.nil (((Only.refl Nil w).alloc (.cells #[.int .u32 0, .int .u32 0] tH)).drewN nq)).setE (n := r.ever + 1)
  have b1 := blk_far (blk_drewN (blk_new w (.cells #[.int .u32 0, .int .u32 0] tH)) nq) (p := ⟨D, 2, none⟩) hDb.symm (.int .i64 ((r.ever : Int) + 1))
  have o1 := (((Only.refl (fun b => b = D) w).alloc (.cells #[.int .u32 0, .int .u32 0] tH)).drewN nq).setCell (p := ⟨D, 2, none⟩) (.inl rfl) (.int .i64 ((r.ever : Int) + 1))
  simp only [Int.natCast_add, Int.natCast_one] at R1
  generalize ((w.alloc (.cells #[.int .u32 0, .int .u32 0] tH)).drewN nq).setCell ⟨D, 2, none⟩ (.int .i64 ((r.ever : Int) + 1)) = wm at *
  clear hD0 hD1 hD2 hDf hDlt
  have hb1 := blk_lt b1
  have hbg : w.heap.size ≠ g := by omega
  have hgb := hbg.symm
  have R5 := (R1.setP5 (i := r.ever) hx ⟨(x.life + 1) % 4294967296, true, n, 0, false⟩).nil (Only.refl _ _).drew
  have o5 := (((((((o1.mono (T := fun b => b = D ∨ b = g) (fun _ _ h => .inl h)).setCell (p := ⟨g, r.ever * 5, none⟩) (.inl (.inr rfl)) (.int .u32 (((x.life + 1) % 4294967296 : Nat) : Int))).setCell (p := ⟨g, r.ever * 5 + 1, none⟩) (.inl (.inr rfl)) (.bool true)).setCell (p := ⟨g, r.ever * 5 + 2, none⟩) (.inl (.inr rfl)) (.int .i64 n)).setCell (p := ⟨g, r.ever * 5 + 3, none⟩) (.inl (.inr rfl)) (.int .i64 0)).setCell (p := ⟨g, r.ever * 5 + 4, none⟩) (.inl (.inr rfl)) (.bool false))).drew
  have b5 := blk_drew (blk_far (blk_far (blk_far (blk_far (blk_far b1 (p := ⟨g, r.ever * 5, none⟩) hbg (.int .u32 (((x.life + 1) % 4294967296 : Nat) : Int))) (p := ⟨g, r.ever * 5 + 1, none⟩) hbg (.bool true)) (p := ⟨g, r.ever * 5 + 2, none⟩) hbg (.int .i64 n)) (p := ⟨g, r.ever * 5 + 3, none⟩) hbg (.int .i64 0)) (p := ⟨g, r.ever * 5 + 4, none⟩) hbg (.bool false))
  simp only [hcast, Int.natCast_zero] at R5 o5 b5
  obtain ⟨hD0, _, _, _, _, hDlt⟩ := R1.base
  have hp := pl_of R1.p hx
  have hn0 := hp.c0
  have hn1 := hp.c1
  have hn2 := hp.c2
  have hn3 := hp.c3
  have hn4 := hp.c4
  have hgf : ∀ o, wm.frozen? ⟨g, o, none⟩ = false := fun o => R1.p.frozenAt o
  have hgl : g < wm.heap.size := own_lt R1.p rfl
  have hsm := o1.size
  clear hp R1 b1 o1 hx
  go_still_tail 17, (by kernel_rfl)
  change wpList _ _ _ _ _ wm.drew
  go_step
  go_step
  generalize (((((wm.setCell ⟨g, r.ever * 5, none⟩ (.int .u32 (((x.life : Int) + 1) % 4294967296))).setCell ⟨g, r.ever * 5 + 1, none⟩ (.bool true)).setCell ⟨g, r.ever * 5 + 2, none⟩ (.int .i64 n)).setCell ⟨g, r.ever * 5 + 3, none⟩ (.int .i64 0)).setCell ⟨g, r.ever * 5 + 4, none⟩ (.bool false)).drew = w5 at *
  clear hD0 hDlt hn0 hn1 hn2 hn3 hn4 hgf hgl
  have hha := handle_at D r.ever _ _ _ _ _ _ w5 R5 (by simpa using hlen) (List.getElem?_set_self hi)
  simp only [hcast] at hha
  have HA := Lib.hid hha
  have hR5 := Lib.hid R5
  have hO5 := Lib.hid o5
  have hB0 := blk_cell b5 0
  have hB1 := blk_cell b5 1
  have hBf0 := blk_frozen b5 0
  have hBf1 := blk_frozen b5 1
  have hBlt := blk_lt b5
  simp only [List.getElem?_toArray, List.getElem?_cons_zero, List.getElem?_cons_succ] at hB0 hB1
  have hb5 := Lib.hid b5
  clear R5 o5 b5 hha
  go_wp2_with fail
  refine HA.out.mono ?_
  rintro e w6 ⟨rfl, rfl⟩
  go_wp2
  refine bodyPost_ret (v := .tuple #[.agg #[.int .u32 r.ever, .int .u32 (((x.life : Int) + 1) % 4294967296)], .int .i64 0]) (by simp [results, Try.results34, go_sem, hB0, hB1, hBlt]) rfl ⟨rfl, ?_⟩
  have o7 : Only (fun b => b = w.heap.size) w5 (((w5.setCell ⟨w.heap.size, 0, none⟩ (.int .u32 r.ever)).setCell ⟨w.heap.size, 1, none⟩ (.int .u32 (((x.life : Int) + 1) % 4294967296))).alloc (.cells #[.int .u32 r.ever, .int .u32 (((x.life : Int) + 1) % 4294967296)] tH)) :=
    (((Only.refl (fun b => b = w.heap.size) w5).setCell (p := ⟨w.heap.size, 0, none⟩) (.inl rfl) _).setCell (p := ⟨w.heap.size, 1, none⟩) (.inl rfl) _).alloc _
  refine ⟨⟨_, _, _, _⟩, hR5.out.only o7 (fun k hk e => ?_), fun k hk => ?_, ?_⟩
  · subst e
    exact RfRep.box_ne hR5.out hb5.out hk
  · exact .inl hk
  · refine (hO5.out.mono (T := RfD D (.slice (some ⟨g, 0, none⟩) r.places.length c) (.slice F 0 fc) vq rows) (fun b _ hb => ?_)).trans o7 (fun b hb e => ?_)
    · rcases hb with hb | hb
      · exact .inl hb
      · subst hb; exact .inr (.inl rfl)
    · omega
set_option maxHeartbeats 1600000 in
set_option maxRecDepth 100000 in
theorem take_old (D k : Nat) (n : Int) (fr : List Nat) (r : Rf) (x : Pl) (p : Rp) (w : World) (h : RfIs w D r p) (hw : r.wf) (hd : r.dropped = fr ++ [k]) (hx : r.places[k]? = some x) :
    Calls Try.prog 34 #[.pointer (some ⟨D, 0, none⟩), .int .i64 n] w fun e w' => e = .returned (.tuple #[.agg #[.int .u32 k, .int .u32 (((x.life : Int) + 1) % 4294967296)], .int .i64 0]) ∧
      RStep w D p { r with dropped := fr, places := r.places.set k ⟨(x.life + 1) % 4294967296, true, n, 0, false⟩ } w' := by
  obtain ⟨vp, vd, vq, rows⟩ := p
  have hi := (List.getElem?_eq_some_iff.1 hx).1
  have hlen := hw.len
  have hlife := hw.life x (List.mem_of_getElem? hx)
  obtain ⟨hD0, hD1, hD2, _, hDf, hDlt⟩ := h.base
  obtain ⟨g, c, hvp, hg, hc, hgD, _⟩ := h.prow hi
  simp only at hvp
  subst hvp
  have hdl := hw.dl
  have hfrow := h.f
  have hfl : r.dropped.length = fr.length + 1 := by rw [hd]; simp
  rw [hfl] at hfrow hdl
  obtain ⟨F, fc, hvd, hF, hfc, hfc'⟩ := own_row hfrow (by omega)
  simp only at hvd
  subst hvd
  have hFc : w.cell? ⟨F, fr.length, none⟩ = some (.int .i64 k) := own_cell hfrow (by rw [hd]; simp [ints])
  have hFD : F ≠ D := ob_ne' (own_blk_ne hfrow h.d (by decide))
  have hcut := own_cut hfrow (m := fr.length) (by omega) (by omega)
  have hints : (ints r.dropped).take (fr.length * 1) = ints fr := by rw [hd]; simp [ints]
  rw [hints] at hcut
  have hDg := hgD.symm
  have hcast : (((x.life + 1) % 4294967296 : Nat) : Int) = ((x.life : Int) + 1) % 4294967296 := by omega
  have H := Lib.hid h
  have Hcut := Lib.hid hcut
  clear h hw hd hfrow hcut hints hfl
  go_enter Try.func34, Try.ntmps34
  go_wp2
  have hDb : D ≠ w.heap.size := by omega
  have R1 := (H.out.setD (l' := fr) (vd' := .slice (some ⟨F, 0, none⟩) fr.length fc) (Only.refl _ _) Hcut.out (fun b hb => .inl hb)).nil ((Only.refl Nil _).alloc (.cells #[.int .u32 0, .int .u32 0] tH))
  have b1 := blk_new' (w.setCell ⟨D, 1, none⟩ (.slice (some ⟨F, 0, none⟩) fr.length fc)) (.cells #[.int .u32 0, .int .u32 0] tH) w.heap.size (by simp)
  have o1 := ((Only.refl (fun b => b = D) w).setCell (p := ⟨D, 1, none⟩) (.inl rfl) (.slice (some ⟨F, 0, none⟩) fr.length fc)).alloc (.cells #[.int .u32 0, .int .u32 0] tH)
  generalize (w.setCell ⟨D, 1, none⟩ (.slice (some ⟨F, 0, none⟩) fr.length fc)).alloc (.cells #[.int .u32 0, .int .u32 0] tH) = wm at *
  clear hD0 hD1 hD2 hDf hDlt hFc hF
  have hb1 := blk_lt b1
  have hbg : w.heap.size ≠ g := by omega
  have hgb := hbg.symm
  have R5 := (R1.setP5 (i := k) hx ⟨(x.life + 1) % 4294967296, true, n, 0, false⟩).nil (Only.refl _ _).drew
  have o5 := (((((((o1.mono (T := fun b => b = D ∨ b = g) (fun _ _ h => .inl h)).setCell (p := ⟨g, k * 5, none⟩) (.inl (.inr rfl)) (.int .u32 (((x.life + 1) % 4294967296 : Nat) : Int))).setCell (p := ⟨g, k * 5 + 1, none⟩) (.inl (.inr rfl)) (.bool true)).setCell (p := ⟨g, k * 5 + 2, none⟩) (.inl (.inr rfl)) (.int .i64 n)).setCell (p := ⟨g, k * 5 + 3, none⟩) (.inl (.inr rfl)) (.int .i64 0)).setCell (p := ⟨g, k * 5 + 4, none⟩) (.inl (.inr rfl)) (.bool false))).drew
  have b5 := blk_drew (blk_far (blk_far (blk_far (blk_far (blk_far b1 (p := ⟨g, k * 5, none⟩) hbg (.int .u32 (((x.life + 1) % 4294967296 : Nat) : Int))) (p := ⟨g, k * 5 + 1, none⟩) hbg (.bool true)) (p := ⟨g, k * 5 + 2, none⟩) hbg (.int .i64 n)) (p := ⟨g, k * 5 + 3, none⟩) hbg (.int .i64 0)) (p := ⟨g, k * 5 + 4, none⟩) hbg (.bool false))
  simp only [hcast, Int.natCast_zero] at R5 o5 b5
  obtain ⟨hD0, _, _, _, _, hDlt⟩ := R1.base
  have hp := pl_of R1.p hx
  have hn0 := hp.c0
  have hn1 := hp.c1
  have hn2 := hp.c2
  have hn3 := hp.c3
  have hn4 := hp.c4
  have hgf : ∀ o, wm.frozen? ⟨g, o, none⟩ = false := fun o => R1.p.frozenAt o
  have hgl : g < wm.heap.size := own_lt R1.p rfl
  have hsm := o1.size
  clear hp R1 b1 o1 hx
  go_still_tail 17, (by kernel_rfl)
  change wpList _ _ _ _ _ wm.drew
  go_step
  go_step
  generalize (((((wm.setCell ⟨g, k * 5, none⟩ (.int .u32 (((x.life : Int) + 1) % 4294967296))).setCell ⟨g, k * 5 + 1, none⟩ (.bool true)).setCell ⟨g, k * 5 + 2, none⟩ (.int .i64 n)).setCell ⟨g, k * 5 + 3, none⟩ (.int .i64 0)).setCell ⟨g, k * 5 + 4, none⟩ (.bool false)).drew = w5 at *
  clear hD0 hDlt hn0 hn1 hn2 hn3 hn4 hgf hgl
  have hha := handle_at D k _ _ _ _ _ _ w5 R5 (by simpa using hlen) (List.getElem?_set_self hi)
  simp only [hcast] at hha
  have HA := Lib.hid hha
  have hR5 := Lib.hid R5
  have hO5 := Lib.hid o5
  have hB0 := blk_cell b5 0
  have hB1 := blk_cell b5 1
  have hBf0 := blk_frozen b5 0
  have hBf1 := blk_frozen b5 1
  have hBlt := blk_lt b5
  simp only [List.getElem?_toArray, List.getElem?_cons_zero, List.getElem?_cons_succ] at hB0 hB1
  have hb5 := Lib.hid b5
  clear R5 o5 b5 hha
  go_wp2_with fail
  refine HA.out.mono ?_
  rintro e w6 ⟨rfl, rfl⟩
  go_wp2
  refine bodyPost_ret (v := .tuple #[.agg #[.int .u32 k, .int .u32 (((x.life : Int) + 1) % 4294967296)], .int .i64 0]) (by simp [results, Try.results34, go_sem, hB0, hB1, hBlt]) rfl ⟨rfl, ?_⟩
  have o7 : Only (fun b => b = w.heap.size) w5 (((w5.setCell ⟨w.heap.size, 0, none⟩ (.int .u32 k)).setCell ⟨w.heap.size, 1, none⟩ (.int .u32 (((x.life : Int) + 1) % 4294967296))).alloc (.cells #[.int .u32 k, .int .u32 (((x.life : Int) + 1) % 4294967296)] tH)) :=
    (((Only.refl (fun b => b = w.heap.size) w5).setCell (p := ⟨w.heap.size, 0, none⟩) (.inl rfl) _).setCell (p := ⟨w.heap.size, 1, none⟩) (.inl rfl) _).alloc _
  refine ⟨⟨_, _, _, _⟩, hR5.out.only o7 (fun k hk e => ?_), fun b hk => ?_, ?_⟩
  · subst e
    exact RfRep.box_ne hR5.out hb5.out hk
  · exact .inl hk
  · refine (hO5.out.mono (T := RfD D (.slice (some ⟨g, 0, none⟩) r.places.length c) (.slice (some ⟨F, 0, none⟩) (fr.length + 1) fc) vq rows) (fun b _ hb => ?_)).trans o7 (fun b hb e => ?_)
    · rcases hb with hb | hb
      · exact .inl hb
      · subst hb; exact .inr (.inl rfl)
    · omega

end Rfw
end Go.Proofs.Ytnhedhmffgaohaa
