/- (Printed by wip/gen/alr.py.) The law's queues: Pop, Next; where there is no queue, or no such kind. -/
import Derived.Test.YtnhedhmffgaohaaAlQ
namespace Go.Proofs.Ytnhedhmffgaohaa
open Go.RowKit
namespace Al
open Rfw (RfRep RfIs RStep Rp RfD tR tP tS ob_eq)
open ArT (ArRep ArD tA tN tQ tI tH tT zstr)
open Go.Proofs.Ytnhedhmffgaohaa.Or (Opv)

set_option maxHeartbeats 6400000 in
set_option maxRecDepth 100000 in
theorem queues_pop {B : Nat → Prop} {w : World} {W A D : Nat} {s : Ar} {Ls : List (List Nat)} {hs : List Hd} {vq vh : Value} (h : Wl B w W A D s Ls hs vq vh) (o : Opv) (i l : Nat) (hn : Ls.length ≤ 4194304) (j : Nat) (hj : JAt s o j) (hk : o.kind = 8) :
    Calls Try.prog 31 #[.pointer (some ⟨W, 0, none⟩), .agg (ocs o), hv i l] w fun e w' => e = .returned (.bool true) ∧ Done B w W A D Ls hs w' := by
  obtain ⟨kind, queue, which, value, raw, ix, life⟩ := o
  simp only at hk
  subst hk
  obtain ⟨hjl, hjt⟩ := hj
  simp only at hjt
  have hLl : (blks s).length = Ls.length := by unfold blks; rw [List.length_map, h.pl.len]
  obtain ⟨q, L, hq, hL, _⟩ := h.pl.q (j := j) (by omega)
  obtain ⟨ob, Ls', r', hLl2, PCd, RCd⟩ := pop_both h.pl hn hq hL
  obtain ⟨g1, c1, e1, hg1, hc1, _⟩ := own_row h.r.q (by omega)
  subst e1
  have hqc : w.cell? ⟨g1, j, none⟩ = some (.pointer (some ⟨q.blk, 0, none⟩)) := own_cell h.r.q (by unfold blks; rw [List.map_map, List.getElem?_map, hq]; rfl)
  obtain ⟨hW0, hW1, hW2, hW3, hWf, hWlt⟩ := h.cells
  have HP := Lib.hid PCd
  have HR := Lib.hid RCd
  unfold ansO at HP HR
  have HSof := Lib.hid (fun X (hx : Lw w X W A D (blks s) hs (.slice (some ⟨g1, 0, none⟩) (blks s).length c1) vh ⟨8, queue, which, value, raw, ix, life⟩ i l) => And.intro hx.cells hx)
  have H := Lib.hid h
  unfold Lc at HSof
  have hpos : (0 : Int) < ((blks s).length : Int) := by omega
  have hne : ((blks s).length : Int) ≠ 0 := by omega
  have hne2 : (((blks s).length : Int) == 0) = false := beq_eq_false_iff_ne.2 hne
  have hjI : (j : Int) < ((blks s).length : Int) := by omega
  have ht1 := Int.tmod_lt_of_pos queue hpos
  have hm4 : (blks s).length ≤ 4194304 := by omega
  have HLl := Lib.hid hLl
  clear h PCd RCd hq hL hLl
  show Calls _ _ #[.pointer (some ⟨W, 0, none⟩), .agg #[.int .i64 8, .int .i64 queue, .int .i64 which, .int .i64 value, .bool raw, .int .u32 ix, .int .u32 life], .agg #[.int .u32 i, .int .u32 l]] _ _
  generalize ht : Int.tmod queue ((blks s).length : Int) = t at *
  rcases hjt with hjt | ⟨hng, hjt⟩
  · have hng : ¬ t < 0 := by omega
    subst hjt
    as_aux_lemma =>
      go_enter Try.func31, Try.ntmps31
      go_wp2
      go_quiet (fail)
      go_wp2_with fail
      have HL := Lib.hid ((wb_lw H.out ⟨8, queue, which, value, raw, ix, life⟩ i l).nil ((Only.refl _ _).drewN nq))
      have HB := Lib.hid ((H.out.both.nil (wb_nil w ⟨8, queue, which, value, raw, ix, life⟩ i l)).nil ((Only.refl _ _).drewN nq))
      have HX := Lib.hid ((wb_nil w ⟨8, queue, which, value, raw, ix, life⟩ i l).drewN nq)
      refine (HP.out B ((wb w ⟨8, queue, which, value, raw, ix, life⟩ i l).drewN nq) A D (refOf s Ls) HB.out).mono ?_
      generalize (wb w ⟨8, queue, which, value, raw, ix, life⟩ i l).drewN nq = X at *
      rintro e wg1 ⟨rfl, s', hp, hbl, hrf, hb1, ho1⟩
      clear hqc hW0 hW1 hW2 hW3 hWf
      have hl1 := (HL.out.own ho1).nil ((Only.refl _ _).alloc (.cells #[.int .u32 (hIx ob), .int .u32 (hLf ob)] tH))
      have hbb := hb1.nil ((Only.refl _ _).alloc (.cells #[.int .u32 (hIx ob), .int .u32 (hLf ob)] tH))
      have hb9 := blk_new wg1 (.cells #[.int .u32 (hIx ob), .int .u32 (hLf ob)] tH)
      have hon := ((HX.out.mono (T := B) (fun _ _ h => h.elim)).trans ho1 (fun _ _ h => h.1)).alloc (.cells #[.int .u32 (hIx ob), .int .u32 (hLf ob)] tH)
      obtain ⟨y1, y2, y3⟩ := (HL.out.own ho1).lt
      obtain ⟨z0, z1, z2, z3, _, _, _, _, _⟩ := (HL.out.own ho1).cells
      have Hl1 := Lib.hid hl1
      have Hb9 := Lib.hid hb9
      have Hon := Lib.hid hon
      have HR2 := Lib.hid (HR.out B _ A D s' hbb)
      clear hl1 hbb hb9 hon hb1 ho1 HL HB HX
      go_wp2_with fail
      refine HR2.out.mono ?_
      rintro e wg2 ⟨rfl, hb2, ho2⟩
      have hbx := blk_apart Hb9.out ho2 (own_ne kH)
      have p0 := blk_cell hbx 0
      have p1 := blk_cell hbx 1
      have pl := blk_lt hbx
      simp only [List.getElem?_toArray, List.getElem?_cons_zero, List.getElem?_cons_succ] at p0 p1
      have hb3 := hb2.nil ((Only.refl _ _).alloc (.cells #[.int .u32 (hIx ob), .int .u32 (hLf ob)] tH))
      have hl3 := ((Hl1.out.own ho2).nil ((Only.refl _ _).alloc (.cells #[.int .u32 (hIx ob), .int .u32 (hLf ob)] tH))).r
      have hon3 := (Hon.out.trans ho2 (fun _ _ h => h.1)).alloc (.cells #[.int .u32 (hIx ob), .int .u32 (hLf ob)] tH)
      have Hb3 := Lib.hid hb3
      have Hl3 := Lib.hid hl3
      have Hon3 := Lib.hid hon3
      clear hbx hb2 ho2 hb3 hl3 hon3
      go_wp2
      go_ret
      exact ⟨rfl, s', Ls', hs, _, vh, H.out.with (hrf.symm ▸ Hb3.out) hp hbl Hl3.out, by omega, by omega, Hon3.out⟩
  · have hjt' : t + ((blks s).length : Int) = (j : Int) := hjt
    have ht2 : t = (j : Int) - ((blks s).length : Int) := by omega
    clear hjt
    as_aux_lemma =>
      go_enter Try.func31, Try.ntmps31
      go_wp2
      go_quiet (fail)
      go_wp2_with fail
      have HL := Lib.hid ((wb_lw H.out ⟨8, queue, which, value, raw, ix, life⟩ i l).nil ((Only.refl _ _).drewN nq))
      have HB := Lib.hid ((H.out.both.nil (wb_nil w ⟨8, queue, which, value, raw, ix, life⟩ i l)).nil ((Only.refl _ _).drewN nq))
      have HX := Lib.hid ((wb_nil w ⟨8, queue, which, value, raw, ix, life⟩ i l).drewN nq)
      refine (HP.out B ((wb w ⟨8, queue, which, value, raw, ix, life⟩ i l).drewN nq) A D (refOf s Ls) HB.out).mono ?_
      generalize (wb w ⟨8, queue, which, value, raw, ix, life⟩ i l).drewN nq = X at *
      rintro e wg1 ⟨rfl, s', hp, hbl, hrf, hb1, ho1⟩
      clear hqc hW0 hW1 hW2 hW3 hWf
      have hl1 := (HL.out.own ho1).nil ((Only.refl _ _).alloc (.cells #[.int .u32 (hIx ob), .int .u32 (hLf ob)] tH))
      have hbb := hb1.nil ((Only.refl _ _).alloc (.cells #[.int .u32 (hIx ob), .int .u32 (hLf ob)] tH))
      have hb9 := blk_new wg1 (.cells #[.int .u32 (hIx ob), .int .u32 (hLf ob)] tH)
      have hon := ((HX.out.mono (T := B) (fun _ _ h => h.elim)).trans ho1 (fun _ _ h => h.1)).alloc (.cells #[.int .u32 (hIx ob), .int .u32 (hLf ob)] tH)
      obtain ⟨y1, y2, y3⟩ := (HL.out.own ho1).lt
      obtain ⟨z0, z1, z2, z3, _, _, _, _, _⟩ := (HL.out.own ho1).cells
      have Hl1 := Lib.hid hl1
      have Hb9 := Lib.hid hb9
      have Hon := Lib.hid hon
      have HR2 := Lib.hid (HR.out B _ A D s' hbb)
      clear hl1 hbb hb9 hon hb1 ho1 HL HB HX
      go_wp2_with fail
      refine HR2.out.mono ?_
      rintro e wg2 ⟨rfl, hb2, ho2⟩
      have hbx := blk_apart Hb9.out ho2 (own_ne kH)
      have p0 := blk_cell hbx 0
      have p1 := blk_cell hbx 1
      have pl := blk_lt hbx
      simp only [List.getElem?_toArray, List.getElem?_cons_zero, List.getElem?_cons_succ] at p0 p1
      have hb3 := hb2.nil ((Only.refl _ _).alloc (.cells #[.int .u32 (hIx ob), .int .u32 (hLf ob)] tH))
      have hl3 := ((Hl1.out.own ho2).nil ((Only.refl _ _).alloc (.cells #[.int .u32 (hIx ob), .int .u32 (hLf ob)] tH))).r
      have hon3 := (Hon.out.trans ho2 (fun _ _ h => h.1)).alloc (.cells #[.int .u32 (hIx ob), .int .u32 (hLf ob)] tH)
      have Hb3 := Lib.hid hb3
      have Hl3 := Lib.hid hl3
      have Hon3 := Lib.hid hon3
      clear hbx hb2 ho2 hb3 hl3 hon3
      go_wp2
      go_ret
      exact ⟨rfl, s', Ls', hs, _, vh, H.out.with (hrf.symm ▸ Hb3.out) hp hbl Hl3.out, by omega, by omega, Hon3.out⟩
set_option maxHeartbeats 6400000 in
set_option maxRecDepth 100000 in
theorem queues_next {B : Nat → Prop} {w : World} {W A D : Nat} {s : Ar} {Ls : List (List Nat)} {hs : List Hd} {vq vh : Value} (h : Wl B w W A D s Ls hs vq vh) (o : Opv) (i l : Nat) (hi : i < 4294967296) (hn : Ls.length ≤ 4194304) (j : Nat) (hj : JAt s o j) (hk : o.kind = 5) :
    Calls Try.prog 31 #[.pointer (some ⟨W, 0, none⟩), .agg (ocs o), hv i l] w fun e w' => e = .returned (.bool true) ∧ Done B w W A D Ls hs w' := by
  obtain ⟨kind, queue, which, value, raw, ix, life⟩ := o
  simp only at hk
  subst hk
  obtain ⟨hjl, hjt⟩ := hj
  simp only at hjt
  have hLl : (blks s).length = Ls.length := by unfold blks; rw [List.length_map, h.pl.len]
  obtain ⟨q, L, hq, hL, _⟩ := h.pl.q (j := j) (by omega)
  obtain ⟨ob, PCd, RCd⟩ := next_both h.pl hn hq hL (l := l) hi
  obtain ⟨g1, c1, e1, hg1, hc1, _⟩ := own_row h.r.q (by omega)
  subst e1
  have hqc : w.cell? ⟨g1, j, none⟩ = some (.pointer (some ⟨q.blk, 0, none⟩)) := own_cell h.r.q (by unfold blks; rw [List.map_map, List.getElem?_map, hq]; rfl)
  obtain ⟨hW0, hW1, hW2, hW3, hWf, hWlt⟩ := h.cells
  have HP := Lib.hid PCd
  have HR := Lib.hid RCd
  unfold hv at HP HR
  unfold ansO at HP HR
  have HSof := Lib.hid (fun X (hx : Lw w X W A D (blks s) hs (.slice (some ⟨g1, 0, none⟩) (blks s).length c1) vh ⟨5, queue, which, value, raw, ix, life⟩ i l) => And.intro hx.cells hx)
  have H := Lib.hid h
  unfold Lc at HSof
  have hpos : (0 : Int) < ((blks s).length : Int) := by omega
  have hne : ((blks s).length : Int) ≠ 0 := by omega
  have hne2 : (((blks s).length : Int) == 0) = false := beq_eq_false_iff_ne.2 hne
  have hjI : (j : Int) < ((blks s).length : Int) := by omega
  have ht1 := Int.tmod_lt_of_pos queue hpos
  have hm4 : (blks s).length ≤ 4194304 := by omega
  have HLl := Lib.hid hLl
  clear h PCd RCd hq hL hLl
  show Calls _ _ #[.pointer (some ⟨W, 0, none⟩), .agg #[.int .i64 5, .int .i64 queue, .int .i64 which, .int .i64 value, .bool raw, .int .u32 ix, .int .u32 life], .agg #[.int .u32 i, .int .u32 l]] _ _
  generalize ht : Int.tmod queue ((blks s).length : Int) = t at *
  rcases hjt with hjt | ⟨hng, hjt⟩
  · have hng : ¬ t < 0 := by omega
    subst hjt
    as_aux_lemma =>
      go_enter Try.func31, Try.ntmps31
      go_wp2
      go_quiet (fail)
      go_wp2_with fail
      have HL := Lib.hid ((wb_lw H.out ⟨5, queue, which, value, raw, ix, life⟩ i l).nil ((Only.refl _ _).drewN nq))
      have HB := Lib.hid ((H.out.both.nil (wb_nil w ⟨5, queue, which, value, raw, ix, life⟩ i l)).nil ((Only.refl _ _).drewN nq))
      have HX := Lib.hid ((wb_nil w ⟨5, queue, which, value, raw, ix, life⟩ i l).drewN nq)
      refine (HP.out B ((wb w ⟨5, queue, which, value, raw, ix, life⟩ i l).drewN nq) A D (refOf s Ls) HB.out).mono ?_
      generalize (wb w ⟨5, queue, which, value, raw, ix, life⟩ i l).drewN nq = X at *
      rintro e wg1 ⟨rfl, s', hp, hbl, hrf, hb1, ho1⟩
      clear hqc hW0 hW1 hW2 hW3 hWf
      have hl1 := (HL.out.own ho1).nil ((Only.refl _ _).alloc (.cells #[.int .u32 (hIx ob), .int .u32 (hLf ob)] tH))
      have hbb := hb1.nil ((Only.refl _ _).alloc (.cells #[.int .u32 (hIx ob), .int .u32 (hLf ob)] tH))
      have hb9 := blk_new wg1 (.cells #[.int .u32 (hIx ob), .int .u32 (hLf ob)] tH)
      have hon := ((HX.out.mono (T := B) (fun _ _ h => h.elim)).trans ho1 (fun _ _ h => h.1)).alloc (.cells #[.int .u32 (hIx ob), .int .u32 (hLf ob)] tH)
      obtain ⟨y1, y2, y3⟩ := (HL.out.own ho1).lt
      obtain ⟨z0, z1, z2, z3, z4, z5, z6, z7, z8⟩ := (HL.out.own ho1).cells
      have Hl1 := Lib.hid hl1
      have Hb9 := Lib.hid hb9
      have Hon := Lib.hid hon
      have Hbb := Lib.hid hbb
      clear hl1 hbb hb9 hon hb1 ho1 HL HB HX
      go_wp2
      generalize hY : wg1.alloc (.cells #[.int .u32 (hIx ob), .int .u32 (hLf ob)] tH) = Y at *
      clear hY y1 y2 y3 z0 z1 z2 z3 z4 z5 z6 z7 z8
      obtain ⟨y1, y2, y3⟩ := Hl1.out.lt
      go_region_held3 (fun w' => (w'.cell? ⟨W, 0, none⟩ = some (.pointer (some ⟨A, 0, none⟩)) ∧ w'.cell? ⟨W, 1, none⟩ = some (.slice (some ⟨g1, 0, none⟩) (blks s).length c1) ∧ w'.cell? ⟨W, 2, none⟩ = some (.pointer (some ⟨D, 0, none⟩)) ∧ w'.cell? ⟨W, 3, none⟩ = some vh ∧ w'.cell? ⟨w.heap.size, 0, none⟩ = some (.int .i64 5) ∧ w'.cell? ⟨w.heap.size, 1, none⟩ = some (.int .i64 queue) ∧ w'.cell? ⟨w.heap.size, 3, none⟩ = some (.int .i64 value) ∧ w'.cell? ⟨w.heap.size + 1, 0, none⟩ = some (.int .u32 i) ∧ w'.cell? ⟨w.heap.size + 1, 1, none⟩ = some (.int .u32 l)) ∧ Lw w w' W A D (blks s) hs (.slice (some ⟨g1, 0, none⟩) (blks s).length c1) vh ⟨5, queue, which, value, raw, ix, life⟩ i l)
        (first | exact HSof.out _ (Hl1.out.nil (Only.refl _ _).drew) | exact HSof.out _ (Hl1.out.nil (((Only.refl _ _).drew).alloc _)) | exact HSof.out _ (Hl1.out.nil (((Only.refl _ _).alloc _).drew)) | exact HSof.out _ (Lw.own (by assumption) ho1) | exact HSof.out _ ((Lw.own (Hl1.out.nil (Only.refl _ _).drew) ho1).nil ((Only.refl _ _).alloc _)) | (go_split_ands; exact HSof.out _ (Lw.fresh Hl1.out (by assumption) hX7 (only_set2 _ _ _ _))))
        ((first
        | (go_at_call 73; go_split_ands; (refine (HR.out B _ A D s' (Hbb.out.nil (Only.refl _ _).drew)).mono ?_); rintro e wg2 ⟨rfl, hb1, ho1⟩; have hbx9 := blk_apart (blk_drew Hb9.out) ho1 (own_ne kH); have p0 := blk_cell hbx9 0; have p1 := blk_cell hbx9 1; have pl := blk_lt hbx9; simp only [List.getElem?_toArray, List.getElem?_cons_zero, List.getElem?_cons_succ] at p0 p1)
        | (go_at_call 73; go_split_ands; (refine (HR.out B _ A D s' (Hbb.out.nil (((Only.refl Nil _).alloc zbox).drew))).mono ?_); rintro e wg2 ⟨rfl, hb1, ho1⟩; have hX7 := Nat.le_refl Y.heap.size; have hbx := blk_apart (blk_drew (blk_new Y zbox)) ho1 (own_ne kH); have hbx9 := blk_apart (blk_drew (blk_alloc Hb9.out zbox)) ho1 (own_ne kH); have p0 := blk_cell hbx9 0; have p1 := blk_cell hbx9 1; have pl := blk_lt hbx9; have h9Y := blk_lt Hb9.out; have hC0 := blk_cell hbx 0; have hC1 := blk_cell hbx 1; have hCf := (fun k => blk_frozen hbx k); have hCl := blk_lt hbx; simp only [List.getElem?_toArray, List.getElem?_cons_zero, List.getElem?_cons_succ] at p0 p1 hC0 hC1)))
      · have Hb3 := Lib.hid (hb1.nil ((Only.refl _ _).alloc (.cells #[.int .u32 (hIx ob), .int .u32 (hLf ob)] tH)))
        have Hl3 := Lib.hid ((((Hl1.out.nil (Only.refl _ _).drew).own ho1).nil ((Only.refl _ _).alloc (.cells #[.int .u32 (hIx ob), .int .u32 (hLf ob)] tH))).r)
        have Hon3 := Lib.hid ((Hon.out.drew.trans ho1 (fun _ _ h => h.1)).alloc (.cells #[.int .u32 (hIx ob), .int .u32 (hLf ob)] tH))
        clear hbx9 hb1 ho1
        go_wp2
        go_ret
        exact ⟨rfl, s', Ls, hs, _, vh, H.out.with (hrf.symm ▸ Hb3.out) hp hbl Hl3.out, by omega, by omega, Hon3.out⟩
      · have hn9 : wg1.heap.size ≠ Y.heap.size := by omega
        have hn9' := hn9.symm
        have Hb3 := Lib.hid (hb1.box hbx (only_set2 wg2 Y.heap.size (.int .u32 (hIx ob)) (.int .u32 (hLf ob))))
        have Hl3 := Lib.hid ((Lw.fresh Hl1.out ((Hl1.out.nil (((Only.refl Nil _).alloc zbox).drew)).own ho1) hX7 (only_set2 wg2 Y.heap.size (.int .u32 (hIx ob)) (.int .u32 (hLf ob)))).r)
        have Hon3 := Lib.hid ((((Hon.out.alloc zbox).drew.trans ho1 (fun _ _ h => h.1))).trans (only_set2 wg2 Y.heap.size (.int .u32 (hIx ob)) (.int .u32 (hLf ob))) (fun k hk e => by have h1 := Hon.out.size; omega))
        clear hbx9 hbx hb1 ho1
        go_wp2
        go_ret
        exact ⟨rfl, s', Ls, hs, _, vh, H.out.with (hrf.symm ▸ Hb3.out) hp hbl Hl3.out, by omega, by omega, Hon3.out⟩
  · have hjt' : t + ((blks s).length : Int) = (j : Int) := hjt
    have ht2 : t = (j : Int) - ((blks s).length : Int) := by omega
    clear hjt
    as_aux_lemma =>
      go_enter Try.func31, Try.ntmps31
      go_wp2
      go_quiet (fail)
      go_wp2_with fail
      have HL := Lib.hid ((wb_lw H.out ⟨5, queue, which, value, raw, ix, life⟩ i l).nil ((Only.refl _ _).drewN nq))
      have HB := Lib.hid ((H.out.both.nil (wb_nil w ⟨5, queue, which, value, raw, ix, life⟩ i l)).nil ((Only.refl _ _).drewN nq))
      have HX := Lib.hid ((wb_nil w ⟨5, queue, which, value, raw, ix, life⟩ i l).drewN nq)
      refine (HP.out B ((wb w ⟨5, queue, which, value, raw, ix, life⟩ i l).drewN nq) A D (refOf s Ls) HB.out).mono ?_
      generalize (wb w ⟨5, queue, which, value, raw, ix, life⟩ i l).drewN nq = X at *
      rintro e wg1 ⟨rfl, s', hp, hbl, hrf, hb1, ho1⟩
      clear hqc hW0 hW1 hW2 hW3 hWf
      have hl1 := (HL.out.own ho1).nil ((Only.refl _ _).alloc (.cells #[.int .u32 (hIx ob), .int .u32 (hLf ob)] tH))
      have hbb := hb1.nil ((Only.refl _ _).alloc (.cells #[.int .u32 (hIx ob), .int .u32 (hLf ob)] tH))
      have hb9 := blk_new wg1 (.cells #[.int .u32 (hIx ob), .int .u32 (hLf ob)] tH)
      have hon := ((HX.out.mono (T := B) (fun _ _ h => h.elim)).trans ho1 (fun _ _ h => h.1)).alloc (.cells #[.int .u32 (hIx ob), .int .u32 (hLf ob)] tH)
      obtain ⟨y1, y2, y3⟩ := (HL.out.own ho1).lt
      obtain ⟨z0, z1, z2, z3, z4, z5, z6, z7, z8⟩ := (HL.out.own ho1).cells
      have Hl1 := Lib.hid hl1
      have Hb9 := Lib.hid hb9
      have Hon := Lib.hid hon
      have Hbb := Lib.hid hbb
      clear hl1 hbb hb9 hon hb1 ho1 HL HB HX
      go_wp2
      generalize hY : wg1.alloc (.cells #[.int .u32 (hIx ob), .int .u32 (hLf ob)] tH) = Y at *
      clear hY y1 y2 y3 z0 z1 z2 z3 z4 z5 z6 z7 z8
      obtain ⟨y1, y2, y3⟩ := Hl1.out.lt
      go_region_held3 (fun w' => (w'.cell? ⟨W, 0, none⟩ = some (.pointer (some ⟨A, 0, none⟩)) ∧ w'.cell? ⟨W, 1, none⟩ = some (.slice (some ⟨g1, 0, none⟩) (blks s).length c1) ∧ w'.cell? ⟨W, 2, none⟩ = some (.pointer (some ⟨D, 0, none⟩)) ∧ w'.cell? ⟨W, 3, none⟩ = some vh ∧ w'.cell? ⟨w.heap.size, 0, none⟩ = some (.int .i64 5) ∧ w'.cell? ⟨w.heap.size, 1, none⟩ = some (.int .i64 queue) ∧ w'.cell? ⟨w.heap.size, 3, none⟩ = some (.int .i64 value) ∧ w'.cell? ⟨w.heap.size + 1, 0, none⟩ = some (.int .u32 i) ∧ w'.cell? ⟨w.heap.size + 1, 1, none⟩ = some (.int .u32 l)) ∧ Lw w w' W A D (blks s) hs (.slice (some ⟨g1, 0, none⟩) (blks s).length c1) vh ⟨5, queue, which, value, raw, ix, life⟩ i l)
        (first | exact HSof.out _ (Hl1.out.nil (Only.refl _ _).drew) | exact HSof.out _ (Hl1.out.nil (((Only.refl _ _).drew).alloc _)) | exact HSof.out _ (Hl1.out.nil (((Only.refl _ _).alloc _).drew)) | exact HSof.out _ (Lw.own (by assumption) ho1) | exact HSof.out _ ((Lw.own (Hl1.out.nil (Only.refl _ _).drew) ho1).nil ((Only.refl _ _).alloc _)) | (go_split_ands; exact HSof.out _ (Lw.fresh Hl1.out (by assumption) hX7 (only_set2 _ _ _ _))))
        ((first
        | (go_at_call 73; go_split_ands; (refine (HR.out B _ A D s' (Hbb.out.nil (Only.refl _ _).drew)).mono ?_); rintro e wg2 ⟨rfl, hb1, ho1⟩; have hbx9 := blk_apart (blk_drew Hb9.out) ho1 (own_ne kH); have p0 := blk_cell hbx9 0; have p1 := blk_cell hbx9 1; have pl := blk_lt hbx9; simp only [List.getElem?_toArray, List.getElem?_cons_zero, List.getElem?_cons_succ] at p0 p1)
        | (go_at_call 73; go_split_ands; (refine (HR.out B _ A D s' (Hbb.out.nil (((Only.refl Nil _).alloc zbox).drew))).mono ?_); rintro e wg2 ⟨rfl, hb1, ho1⟩; have hX7 := Nat.le_refl Y.heap.size; have hbx := blk_apart (blk_drew (blk_new Y zbox)) ho1 (own_ne kH); have hbx9 := blk_apart (blk_drew (blk_alloc Hb9.out zbox)) ho1 (own_ne kH); have p0 := blk_cell hbx9 0; have p1 := blk_cell hbx9 1; have pl := blk_lt hbx9; have h9Y := blk_lt Hb9.out; have hC0 := blk_cell hbx 0; have hC1 := blk_cell hbx 1; have hCf := (fun k => blk_frozen hbx k); have hCl := blk_lt hbx; simp only [List.getElem?_toArray, List.getElem?_cons_zero, List.getElem?_cons_succ] at p0 p1 hC0 hC1)))
      · have Hb3 := Lib.hid (hb1.nil ((Only.refl _ _).alloc (.cells #[.int .u32 (hIx ob), .int .u32 (hLf ob)] tH)))
        have Hl3 := Lib.hid ((((Hl1.out.nil (Only.refl _ _).drew).own ho1).nil ((Only.refl _ _).alloc (.cells #[.int .u32 (hIx ob), .int .u32 (hLf ob)] tH))).r)
        have Hon3 := Lib.hid ((Hon.out.drew.trans ho1 (fun _ _ h => h.1)).alloc (.cells #[.int .u32 (hIx ob), .int .u32 (hLf ob)] tH))
        clear hbx9 hb1 ho1
        go_wp2
        go_ret
        exact ⟨rfl, s', Ls, hs, _, vh, H.out.with (hrf.symm ▸ Hb3.out) hp hbl Hl3.out, by omega, by omega, Hon3.out⟩
      · have hn9 : wg1.heap.size ≠ Y.heap.size := by omega
        have hn9' := hn9.symm
        have Hb3 := Lib.hid (hb1.box hbx (only_set2 wg2 Y.heap.size (.int .u32 (hIx ob)) (.int .u32 (hLf ob))))
        have Hl3 := Lib.hid ((Lw.fresh Hl1.out ((Hl1.out.nil (((Only.refl Nil _).alloc zbox).drew)).own ho1) hX7 (only_set2 wg2 Y.heap.size (.int .u32 (hIx ob)) (.int .u32 (hLf ob)))).r)
        have Hon3 := Lib.hid ((((Hon.out.alloc zbox).drew.trans ho1 (fun _ _ h => h.1))).trans (only_set2 wg2 Y.heap.size (.int .u32 (hIx ob)) (.int .u32 (hLf ob))) (fun k hk e => by have h1 := Hon.out.size; omega))
        clear hbx9 hbx hb1 ho1
        go_wp2
        go_ret
        exact ⟨rfl, s', Ls, hs, _, vh, H.out.with (hrf.symm ▸ Hb3.out) hp hbl Hl3.out, by omega, by omega, Hon3.out⟩

/-! ### No queue; no such kind -/
set_option maxHeartbeats 1600000 in
set_option maxRecDepth 100000 in
theorem queues_none {B : Nat → Prop} {w : World} {W A D : Nat} {s : Ar} {Ls : List (List Nat)} {hs : List Hd} {vq vh : Value} (h : Wl B w W A D s Ls hs vq vh) (o : Opv) (i l : Nat) (h0 : (blks s).length = 0) :
    Calls Try.prog 31 #[.pointer (some ⟨W, 0, none⟩), .agg (ocs o), hv i l] w fun e w' => e = .returned (.bool true) ∧ Done B w W A D Ls hs w' := by
  obtain ⟨kind, queue, which, value, raw, ix, life⟩ := o
  obtain ⟨A1, c1, e1, hc1⟩ := own_slice h.r.q
  subst e1
  obtain ⟨hW0, hW1, hW2, hW3, hWf, hWlt⟩ := h.cells
  rw [h0] at hW1
  have H := Lib.hid h
  clear h h0
  show Calls _ _ #[.pointer (some ⟨W, 0, none⟩), .agg #[.int .i64 kind, .int .i64 queue, .int .i64 which, .int .i64 value, .bool raw, .int .u32 ix, .int .u32 life], .agg #[.int .u32 i, .int .u32 l]] _ _
  go_enter Try.func31, Try.ntmps31
  go_wp2
  go_ret
  exact ⟨rfl, s, Ls, hs, _, vh, H.out.nil (wb_nil w ⟨kind, queue, which, value, raw, ix, life⟩ i l), by omega, by omega, (wb_nil w ⟨kind, queue, which, value, raw, ix, life⟩ i l).mono (fun _ _ h => h.elim)⟩

set_option maxHeartbeats 1600000 in
set_option maxRecDepth 100000 in
theorem queues_other {B : Nat → Prop} {w : World} {W A D : Nat} {s : Ar} {Ls : List (List Nat)} {hs : List Hd} {vq vh : Value} (h : Wl B w W A D s Ls hs vq vh) (o : Opv) (i l : Nat) (hn : Ls.length ≤ 4194304) (j : Nat) (hj : JAt s o j) (hk : o.kind < 4 ∨ 9 < o.kind) :
    Calls Try.prog 31 #[.pointer (some ⟨W, 0, none⟩), .agg (ocs o), hv i l] w fun e w' => e = .returned (.bool true) ∧ Done B w W A D Ls hs w' := by
  obtain ⟨kind, queue, which, value, raw, ix, life⟩ := o
  simp only at hk
  have e4 : (kind == 4) = false := beq_eq_false_iff_ne.2 (by omega)
  have e5 : (kind == 5) = false := beq_eq_false_iff_ne.2 (by omega)
  have e6 : (kind == 6) = false := beq_eq_false_iff_ne.2 (by omega)
  have e7 : (kind == 7) = false := beq_eq_false_iff_ne.2 (by omega)
  have e8 : (kind == 8) = false := beq_eq_false_iff_ne.2 (by omega)
  have e9 : (kind == 9) = false := beq_eq_false_iff_ne.2 (by omega)
  clear hk
  obtain ⟨hjl, hjt⟩ := hj
  simp only at hjt
  have hLl : (blks s).length = Ls.length := by unfold blks; rw [List.length_map, h.pl.len]
  obtain ⟨q, L, hq, hL, _⟩ := h.pl.q (j := j) (by omega)
  obtain ⟨g1, c1, e1, hg1, hc1, _⟩ := own_row h.r.q (by omega)
  subst e1
  have hqc : w.cell? ⟨g1, j, none⟩ = some (.pointer (some ⟨q.blk, 0, none⟩)) := own_cell h.r.q (by unfold blks; rw [List.map_map, List.getElem?_map, hq]; rfl)
  obtain ⟨hW0, hW1, hW2, hW3, hWf, hWlt⟩ := h.cells
  have H := Lib.hid h
  have hpos : (0 : Int) < ((blks s).length : Int) := by omega
  have hne : ((blks s).length : Int) ≠ 0 := by omega
  have hne2 : (((blks s).length : Int) == 0) = false := beq_eq_false_iff_ne.2 hne
  have hjI : (j : Int) < ((blks s).length : Int) := by omega
  have ht1 := Int.tmod_lt_of_pos queue hpos
  have hm4 : (blks s).length ≤ 4194304 := by omega
  clear h hq hL hLl
  show Calls _ _ #[.pointer (some ⟨W, 0, none⟩), .agg #[.int .i64 kind, .int .i64 queue, .int .i64 which, .int .i64 value, .bool raw, .int .u32 ix, .int .u32 life], .agg #[.int .u32 i, .int .u32 l]] _ _
  generalize ht : Int.tmod queue ((blks s).length : Int) = t at *
  rcases hjt with hjt | ⟨hng, hjt⟩
  · have hng : ¬ t < 0 := by omega
    subst hjt
    go_enter Try.func31, Try.ntmps31
    go_wp2
    go_quiet (fail)
    go_wp2
    go_ret
    exact ⟨rfl, s, Ls, hs, _, vh, H.out.nil ((wb_nil w ⟨kind, queue, which, value, raw, ix, life⟩ i l).drewN _), by omega, by omega, ((wb_nil w ⟨kind, queue, which, value, raw, ix, life⟩ i l).drewN _).mono (fun _ _ h => h.elim)⟩
  · have hjt' : t + ((blks s).length : Int) = (j : Int) := hjt
    have ht2 : t = (j : Int) - ((blks s).length : Int) := by omega
    clear hjt
    go_enter Try.func31, Try.ntmps31
    go_wp2
    go_quiet (fail)
    go_wp2
    go_ret
    exact ⟨rfl, s, Ls, hs, _, vh, H.out.nil ((wb_nil w ⟨kind, queue, which, value, raw, ix, life⟩ i l).drewN _), by omega, by omega, ((wb_nil w ⟨kind, queue, which, value, raw, ix, life⟩ i l).drewN _).mono (fun _ _ h => h.elim)⟩
end Al
end Go.Proofs.Ytnhedhmffgaohaa
