/- (Printed by wip/gen/alq.py.) The law's queues: Push, Remove, Mark, Sweep. -/
import Derived.Test.YtnhedhmffgaohaaAlP
namespace Go.Proofs.Ytnhedhmffgaohaa
open Go.RowKit
namespace Al
open Rfw (RfRep RfIs RStep Rp RfD tR tP tS ob_eq)
open ArT (ArRep ArD tA tN tQ tI tH tT zstr)
open Go.Proofs.Ytnhedhmffgaohaa.Or (Opv)

/-- The queue that a step names. -/
def JAt (s : Ar) (o : Opv) (j : Nat) : Prop := j < (blks s).length ∧ (Int.tmod o.queue ((blks s).length : Int) = (j : Int) ∨ Int.tmod o.queue ((blks s).length : Int) < 0 ∧ Int.tmod o.queue ((blks s).length : Int) + ((blks s).length : Int) = (j : Int))

set_option maxHeartbeats 6400000 in
set_option maxRecDepth 100000 in
theorem queues_push {B : Nat → Prop} {w : World} {W A D : Nat} {s : Ar} {Ls : List (List Nat)} {hs : List Hd} {vq vh : Value} (h : Wl B w W A D s Ls hs vq vh) (o : Opv) (i l : Nat) (hi : i < 4294967296) (hn : Ls.length ≤ 4194304) (j : Nat) (hj : JAt s o j) (hk : o.kind = 4) :
    Calls Try.prog 31 #[.pointer (some ⟨W, 0, none⟩), .agg (ocs o), hv i l] w fun e w' => e = .returned (.bool true) ∧ Done B w W A D Ls hs w' := by
  obtain ⟨kind, queue, which, value, raw, ix, life⟩ := o
  simp only at hk
  subst hk
  obtain ⟨hjl, hjt⟩ := hj
  simp only at hjt
  have hLl : (blks s).length = Ls.length := by unfold blks; rw [List.length_map, h.pl.len]
  obtain ⟨q, L, hq, hL, _⟩ := h.pl.q (j := j) (by omega)
  obtain ⟨f, Ls', r', hLl2, PCd, RCd⟩ := push_both h.pl hn hq hL (l := l) hi
  obtain ⟨g1, c1, e1, hg1, hc1, _⟩ := own_row h.r.q (by omega)
  subst e1
  have hqc : w.cell? ⟨g1, j, none⟩ = some (.pointer (some ⟨q.blk, 0, none⟩)) := own_cell h.r.q (by unfold blks; rw [List.map_map, List.getElem?_map, hq]; rfl)
  obtain ⟨hW0, hW1, hW2, hW3, hWf, hWlt⟩ := h.cells
  have HP := Lib.hid PCd
  have HR := Lib.hid RCd
  unfold hv at HP HR
  have HSof := Lib.hid (fun X (hx : Lw w X W A D (blks s) hs (.slice (some ⟨g1, 0, none⟩) (blks s).length c1) vh ⟨4, queue, which, value, raw, ix, life⟩ i l) => And.intro hx.cells hx)
  have H := Lib.hid h
  unfold Lc at HSof
  have hpos : (0 : Int) < ((blks s).length : Int) := by omega
  have hne : ((blks s).length : Int) ≠ 0 := by omega
  have hne2 : (((blks s).length : Int) == 0) = false := beq_eq_false_iff_ne.2 hne
  have hjI : (j : Int) < ((blks s).length : Int) := by omega
  have ht1 := Int.tmod_lt_of_pos queue hpos
  have hm4 : (blks s).length ≤ 4194304 := by omega
  have HLl := Lib.hid hLl
  clear h PCd RCd hq hL hLl
  show Calls _ _ #[.pointer (some ⟨W, 0, none⟩), .agg #[.int .i64 4, .int .i64 queue, .int .i64 which, .int .i64 value, .bool raw, .int .u32 ix, .int .u32 life], .agg #[.int .u32 i, .int .u32 l]] _ _
  generalize ht : Int.tmod queue ((blks s).length : Int) = t at *
  rcases hjt with hjt | ⟨hng, hjt⟩
  · have hng : ¬ t < 0 := by omega
    subst hjt
    as_aux_lemma =>
      go_enter Try.func31, Try.ntmps31
      go_wp2
      go_quiet (fail)
      go_wp2
      change Code.wp _ _ _ _ ((wb w ⟨4, queue, which, value, raw, ix, life⟩ i l).drewN nq)
      have HL := Lib.hid ((wb_lw H.out ⟨4, queue, which, value, raw, ix, life⟩ i l).nil ((Only.refl _ _).drewN nq))
      have HB := Lib.hid ((H.out.both.nil (wb_nil w ⟨4, queue, which, value, raw, ix, life⟩ i l)).nil ((Only.refl _ _).drewN nq))
      have HX := Lib.hid ((wb_nil w ⟨4, queue, which, value, raw, ix, life⟩ i l).drewN nq)
      generalize (wb w ⟨4, queue, which, value, raw, ix, life⟩ i l).drewN nq = X at *
      obtain ⟨x1, x2, x3⟩ := HL.out.lt
      clear hqc hW0 hW1 hW2 hW3 hWf
      have HLd := Lib.hid (HL.out.nil (Only.refl _ _).drew)
      have HBd := Lib.hid (HB.out.nil (Only.refl _ _).drew)
      go_region_held3 (fun w' => (w'.cell? ⟨W, 0, none⟩ = some (.pointer (some ⟨A, 0, none⟩)) ∧ w'.cell? ⟨W, 1, none⟩ = some (.slice (some ⟨g1, 0, none⟩) (blks s).length c1) ∧ w'.cell? ⟨W, 2, none⟩ = some (.pointer (some ⟨D, 0, none⟩)) ∧ w'.cell? ⟨W, 3, none⟩ = some vh ∧ w'.cell? ⟨w.heap.size, 0, none⟩ = some (.int .i64 4) ∧ w'.cell? ⟨w.heap.size, 1, none⟩ = some (.int .i64 queue) ∧ w'.cell? ⟨w.heap.size, 3, none⟩ = some (.int .i64 value) ∧ w'.cell? ⟨w.heap.size + 1, 0, none⟩ = some (.int .u32 i) ∧ w'.cell? ⟨w.heap.size + 1, 1, none⟩ = some (.int .u32 l)) ∧ Lw w w' W A D (blks s) hs (.slice (some ⟨g1, 0, none⟩) (blks s).length c1) vh ⟨4, queue, which, value, raw, ix, life⟩ i l)
        (first | exact HSof.out _ HLd.out | exact HSof.out _ (Lw.own (by assumption) ho1) | exact HSof.out _ (Lw.own (by assumption) ho2))
        ((first
        | (go_at_call 70; go_split_ands; (refine (HP.out B _ A D (refOf s Ls) HBd.out).mono ?_); rintro e wg1 ⟨rfl, s', hp, hbl, hrf, hb1, ho1⟩)
        | (go_at_call 71; go_split_ands; (refine (HR.out B _ A D s' hb1).mono ?_); rintro e wg2 ⟨rfl, hb2, ho2⟩)))
      go_wp2
      go_ret
      exact ⟨rfl, s', Ls', hs, _, vh, H.out.with (hrf.symm ▸ hb2) hp hbl ((HLd.out.own ho1).own ho2).r, by omega, by omega, only2 HX.out ho1 ho2⟩
  · have hjt' : t + ((blks s).length : Int) = (j : Int) := hjt
    have ht2 : t = (j : Int) - ((blks s).length : Int) := by omega
    clear hjt
    as_aux_lemma =>
      go_enter Try.func31, Try.ntmps31
      go_wp2
      go_quiet (fail)
      go_wp2
      change Code.wp _ _ _ _ ((wb w ⟨4, queue, which, value, raw, ix, life⟩ i l).drewN nq)
      have HL := Lib.hid ((wb_lw H.out ⟨4, queue, which, value, raw, ix, life⟩ i l).nil ((Only.refl _ _).drewN nq))
      have HB := Lib.hid ((H.out.both.nil (wb_nil w ⟨4, queue, which, value, raw, ix, life⟩ i l)).nil ((Only.refl _ _).drewN nq))
      have HX := Lib.hid ((wb_nil w ⟨4, queue, which, value, raw, ix, life⟩ i l).drewN nq)
      generalize (wb w ⟨4, queue, which, value, raw, ix, life⟩ i l).drewN nq = X at *
      obtain ⟨x1, x2, x3⟩ := HL.out.lt
      clear hqc hW0 hW1 hW2 hW3 hWf
      have HLd := Lib.hid (HL.out.nil (Only.refl _ _).drew)
      have HBd := Lib.hid (HB.out.nil (Only.refl _ _).drew)
      go_region_held3 (fun w' => (w'.cell? ⟨W, 0, none⟩ = some (.pointer (some ⟨A, 0, none⟩)) ∧ w'.cell? ⟨W, 1, none⟩ = some (.slice (some ⟨g1, 0, none⟩) (blks s).length c1) ∧ w'.cell? ⟨W, 2, none⟩ = some (.pointer (some ⟨D, 0, none⟩)) ∧ w'.cell? ⟨W, 3, none⟩ = some vh ∧ w'.cell? ⟨w.heap.size, 0, none⟩ = some (.int .i64 4) ∧ w'.cell? ⟨w.heap.size, 1, none⟩ = some (.int .i64 queue) ∧ w'.cell? ⟨w.heap.size, 3, none⟩ = some (.int .i64 value) ∧ w'.cell? ⟨w.heap.size + 1, 0, none⟩ = some (.int .u32 i) ∧ w'.cell? ⟨w.heap.size + 1, 1, none⟩ = some (.int .u32 l)) ∧ Lw w w' W A D (blks s) hs (.slice (some ⟨g1, 0, none⟩) (blks s).length c1) vh ⟨4, queue, which, value, raw, ix, life⟩ i l)
        (first | exact HSof.out _ HLd.out | exact HSof.out _ (Lw.own (by assumption) ho1) | exact HSof.out _ (Lw.own (by assumption) ho2))
        ((first
        | (go_at_call 70; go_split_ands; (refine (HP.out B _ A D (refOf s Ls) HBd.out).mono ?_); rintro e wg1 ⟨rfl, s', hp, hbl, hrf, hb1, ho1⟩)
        | (go_at_call 71; go_split_ands; (refine (HR.out B _ A D s' hb1).mono ?_); rintro e wg2 ⟨rfl, hb2, ho2⟩)))
      go_wp2
      go_ret
      exact ⟨rfl, s', Ls', hs, _, vh, H.out.with (hrf.symm ▸ hb2) hp hbl ((HLd.out.own ho1).own ho2).r, by omega, by omega, only2 HX.out ho1 ho2⟩
set_option maxHeartbeats 6400000 in
set_option maxRecDepth 100000 in
theorem queues_remove {B : Nat → Prop} {w : World} {W A D : Nat} {s : Ar} {Ls : List (List Nat)} {hs : List Hd} {vq vh : Value} (h : Wl B w W A D s Ls hs vq vh) (o : Opv) (i l : Nat) (hi : i < 4294967296) (hn : Ls.length ≤ 4194304) (j : Nat) (hj : JAt s o j) (hk : o.kind = 6) :
    Calls Try.prog 31 #[.pointer (some ⟨W, 0, none⟩), .agg (ocs o), hv i l] w fun e w' => e = .returned (.bool true) ∧ Done B w W A D Ls hs w' := by
  obtain ⟨kind, queue, which, value, raw, ix, life⟩ := o
  simp only at hk
  subst hk
  obtain ⟨hjl, hjt⟩ := hj
  simp only at hjt
  have hLl : (blks s).length = Ls.length := by unfold blks; rw [List.length_map, h.pl.len]
  obtain ⟨q, L, hq, hL, _⟩ := h.pl.q (j := j) (by omega)
  obtain ⟨f, Ls', r', hLl2, PCd, RCd⟩ := remove_both h.pl hn hq hL (l := l) hi
  obtain ⟨g1, c1, e1, hg1, hc1, _⟩ := own_row h.r.q (by omega)
  subst e1
  have hqc : w.cell? ⟨g1, j, none⟩ = some (.pointer (some ⟨q.blk, 0, none⟩)) := own_cell h.r.q (by unfold blks; rw [List.map_map, List.getElem?_map, hq]; rfl)
  obtain ⟨hW0, hW1, hW2, hW3, hWf, hWlt⟩ := h.cells
  have HP := Lib.hid PCd
  have HR := Lib.hid RCd
  unfold hv at HP HR
  have HSof := Lib.hid (fun X (hx : Lw w X W A D (blks s) hs (.slice (some ⟨g1, 0, none⟩) (blks s).length c1) vh ⟨6, queue, which, value, raw, ix, life⟩ i l) => And.intro hx.cells hx)
  have H := Lib.hid h
  unfold Lc at HSof
  have hpos : (0 : Int) < ((blks s).length : Int) := by omega
  have hne : ((blks s).length : Int) ≠ 0 := by omega
  have hne2 : (((blks s).length : Int) == 0) = false := beq_eq_false_iff_ne.2 hne
  have hjI : (j : Int) < ((blks s).length : Int) := by omega
  have ht1 := Int.tmod_lt_of_pos queue hpos
  have hm4 : (blks s).length ≤ 4194304 := by omega
  have HLl := Lib.hid hLl
  clear h PCd RCd hq hL hLl
  show Calls _ _ #[.pointer (some ⟨W, 0, none⟩), .agg #[.int .i64 6, .int .i64 queue, .int .i64 which, .int .i64 value, .bool raw, .int .u32 ix, .int .u32 life], .agg #[.int .u32 i, .int .u32 l]] _ _
  generalize ht : Int.tmod queue ((blks s).length : Int) = t at *
  rcases hjt with hjt | ⟨hng, hjt⟩
  · have hng : ¬ t < 0 := by omega
    subst hjt
    as_aux_lemma =>
      go_enter Try.func31, Try.ntmps31
      go_wp2
      go_quiet (fail)
      go_wp2
      change Code.wp _ _ _ _ ((wb w ⟨6, queue, which, value, raw, ix, life⟩ i l).drewN nq)
      have HL := Lib.hid ((wb_lw H.out ⟨6, queue, which, value, raw, ix, life⟩ i l).nil ((Only.refl _ _).drewN nq))
      have HB := Lib.hid ((H.out.both.nil (wb_nil w ⟨6, queue, which, value, raw, ix, life⟩ i l)).nil ((Only.refl _ _).drewN nq))
      have HX := Lib.hid ((wb_nil w ⟨6, queue, which, value, raw, ix, life⟩ i l).drewN nq)
      generalize (wb w ⟨6, queue, which, value, raw, ix, life⟩ i l).drewN nq = X at *
      obtain ⟨x1, x2, x3⟩ := HL.out.lt
      clear hqc hW0 hW1 hW2 hW3 hWf
      have HLd := Lib.hid (HL.out.nil (Only.refl _ _).drew)
      have HBd := Lib.hid (HB.out.nil (Only.refl _ _).drew)
      go_region_held3 (fun w' => (w'.cell? ⟨W, 0, none⟩ = some (.pointer (some ⟨A, 0, none⟩)) ∧ w'.cell? ⟨W, 1, none⟩ = some (.slice (some ⟨g1, 0, none⟩) (blks s).length c1) ∧ w'.cell? ⟨W, 2, none⟩ = some (.pointer (some ⟨D, 0, none⟩)) ∧ w'.cell? ⟨W, 3, none⟩ = some vh ∧ w'.cell? ⟨w.heap.size, 0, none⟩ = some (.int .i64 6) ∧ w'.cell? ⟨w.heap.size, 1, none⟩ = some (.int .i64 queue) ∧ w'.cell? ⟨w.heap.size, 3, none⟩ = some (.int .i64 value) ∧ w'.cell? ⟨w.heap.size + 1, 0, none⟩ = some (.int .u32 i) ∧ w'.cell? ⟨w.heap.size + 1, 1, none⟩ = some (.int .u32 l)) ∧ Lw w w' W A D (blks s) hs (.slice (some ⟨g1, 0, none⟩) (blks s).length c1) vh ⟨6, queue, which, value, raw, ix, life⟩ i l)
        (first | exact HSof.out _ HLd.out | exact HSof.out _ (Lw.own (by assumption) ho1) | exact HSof.out _ (Lw.own (by assumption) ho2))
        ((first
        | (go_at_call 74; go_split_ands; (refine (HP.out B _ A D (refOf s Ls) HBd.out).mono ?_); rintro e wg1 ⟨rfl, s', hp, hbl, hrf, hb1, ho1⟩)
        | (go_at_call 75; go_split_ands; (refine (HR.out B _ A D s' hb1).mono ?_); rintro e wg2 ⟨rfl, hb2, ho2⟩)))
      go_wp2
      go_ret
      exact ⟨rfl, s', Ls', hs, _, vh, H.out.with (hrf.symm ▸ hb2) hp hbl ((HLd.out.own ho1).own ho2).r, by omega, by omega, only2 HX.out ho1 ho2⟩
  · have hjt' : t + ((blks s).length : Int) = (j : Int) := hjt
    have ht2 : t = (j : Int) - ((blks s).length : Int) := by omega
    clear hjt
    as_aux_lemma =>
      go_enter Try.func31, Try.ntmps31
      go_wp2
      go_quiet (fail)
      go_wp2
      change Code.wp _ _ _ _ ((wb w ⟨6, queue, which, value, raw, ix, life⟩ i l).drewN nq)
      have HL := Lib.hid ((wb_lw H.out ⟨6, queue, which, value, raw, ix, life⟩ i l).nil ((Only.refl _ _).drewN nq))
      have HB := Lib.hid ((H.out.both.nil (wb_nil w ⟨6, queue, which, value, raw, ix, life⟩ i l)).nil ((Only.refl _ _).drewN nq))
      have HX := Lib.hid ((wb_nil w ⟨6, queue, which, value, raw, ix, life⟩ i l).drewN nq)
      generalize (wb w ⟨6, queue, which, value, raw, ix, life⟩ i l).drewN nq = X at *
      obtain ⟨x1, x2, x3⟩ := HL.out.lt
      clear hqc hW0 hW1 hW2 hW3 hWf
      have HLd := Lib.hid (HL.out.nil (Only.refl _ _).drew)
      have HBd := Lib.hid (HB.out.nil (Only.refl _ _).drew)
      go_region_held3 (fun w' => (w'.cell? ⟨W, 0, none⟩ = some (.pointer (some ⟨A, 0, none⟩)) ∧ w'.cell? ⟨W, 1, none⟩ = some (.slice (some ⟨g1, 0, none⟩) (blks s).length c1) ∧ w'.cell? ⟨W, 2, none⟩ = some (.pointer (some ⟨D, 0, none⟩)) ∧ w'.cell? ⟨W, 3, none⟩ = some vh ∧ w'.cell? ⟨w.heap.size, 0, none⟩ = some (.int .i64 6) ∧ w'.cell? ⟨w.heap.size, 1, none⟩ = some (.int .i64 queue) ∧ w'.cell? ⟨w.heap.size, 3, none⟩ = some (.int .i64 value) ∧ w'.cell? ⟨w.heap.size + 1, 0, none⟩ = some (.int .u32 i) ∧ w'.cell? ⟨w.heap.size + 1, 1, none⟩ = some (.int .u32 l)) ∧ Lw w w' W A D (blks s) hs (.slice (some ⟨g1, 0, none⟩) (blks s).length c1) vh ⟨6, queue, which, value, raw, ix, life⟩ i l)
        (first | exact HSof.out _ HLd.out | exact HSof.out _ (Lw.own (by assumption) ho1) | exact HSof.out _ (Lw.own (by assumption) ho2))
        ((first
        | (go_at_call 74; go_split_ands; (refine (HP.out B _ A D (refOf s Ls) HBd.out).mono ?_); rintro e wg1 ⟨rfl, s', hp, hbl, hrf, hb1, ho1⟩)
        | (go_at_call 75; go_split_ands; (refine (HR.out B _ A D s' hb1).mono ?_); rintro e wg2 ⟨rfl, hb2, ho2⟩)))
      go_wp2
      go_ret
      exact ⟨rfl, s', Ls', hs, _, vh, H.out.with (hrf.symm ▸ hb2) hp hbl ((HLd.out.own ho1).own ho2).r, by omega, by omega, only2 HX.out ho1 ho2⟩
set_option maxHeartbeats 6400000 in
set_option maxRecDepth 100000 in
theorem queues_mark {B : Nat → Prop} {w : World} {W A D : Nat} {s : Ar} {Ls : List (List Nat)} {hs : List Hd} {vq vh : Value} (h : Wl B w W A D s Ls hs vq vh) (o : Opv) (i l : Nat) (hi : i < 4294967296) (hn : Ls.length ≤ 4194304) (j : Nat) (hj : JAt s o j) (hk : o.kind = 7) :
    Calls Try.prog 31 #[.pointer (some ⟨W, 0, none⟩), .agg (ocs o), hv i l] w fun e w' => e = .returned (.bool true) ∧ Done B w W A D Ls hs w' := by
  obtain ⟨kind, queue, which, value, raw, ix, life⟩ := o
  simp only at hk
  subst hk
  obtain ⟨hjl, hjt⟩ := hj
  simp only at hjt
  have hLl : (blks s).length = Ls.length := by unfold blks; rw [List.length_map, h.pl.len]
  obtain ⟨q, L, hq, hL, _⟩ := h.pl.q (j := j) (by omega)
  obtain ⟨f, Ls', r', hLl2, PCd, RCd⟩ := mark_both h.pl hn hq hL (l := l) hi
  obtain ⟨g1, c1, e1, hg1, hc1, _⟩ := own_row h.r.q (by omega)
  subst e1
  have hqc : w.cell? ⟨g1, j, none⟩ = some (.pointer (some ⟨q.blk, 0, none⟩)) := own_cell h.r.q (by unfold blks; rw [List.map_map, List.getElem?_map, hq]; rfl)
  obtain ⟨hW0, hW1, hW2, hW3, hWf, hWlt⟩ := h.cells
  have HP := Lib.hid PCd
  have HR := Lib.hid RCd
  unfold hv at HP HR
  have HSof := Lib.hid (fun X (hx : Lw w X W A D (blks s) hs (.slice (some ⟨g1, 0, none⟩) (blks s).length c1) vh ⟨7, queue, which, value, raw, ix, life⟩ i l) => And.intro hx.cells hx)
  have H := Lib.hid h
  unfold Lc at HSof
  have hpos : (0 : Int) < ((blks s).length : Int) := by omega
  have hne : ((blks s).length : Int) ≠ 0 := by omega
  have hne2 : (((blks s).length : Int) == 0) = false := beq_eq_false_iff_ne.2 hne
  have hjI : (j : Int) < ((blks s).length : Int) := by omega
  have ht1 := Int.tmod_lt_of_pos queue hpos
  have hm4 : (blks s).length ≤ 4194304 := by omega
  have HLl := Lib.hid hLl
  clear h PCd RCd hq hL hLl
  show Calls _ _ #[.pointer (some ⟨W, 0, none⟩), .agg #[.int .i64 7, .int .i64 queue, .int .i64 which, .int .i64 value, .bool raw, .int .u32 ix, .int .u32 life], .agg #[.int .u32 i, .int .u32 l]] _ _
  generalize ht : Int.tmod queue ((blks s).length : Int) = t at *
  rcases hjt with hjt | ⟨hng, hjt⟩
  · have hng : ¬ t < 0 := by omega
    subst hjt
    as_aux_lemma =>
      go_enter Try.func31, Try.ntmps31
      go_wp2
      go_quiet (fail)
      go_wp2
      change Code.wp _ _ _ _ ((wb w ⟨7, queue, which, value, raw, ix, life⟩ i l).drewN nq)
      have HL := Lib.hid ((wb_lw H.out ⟨7, queue, which, value, raw, ix, life⟩ i l).nil ((Only.refl _ _).drewN nq))
      have HB := Lib.hid ((H.out.both.nil (wb_nil w ⟨7, queue, which, value, raw, ix, life⟩ i l)).nil ((Only.refl _ _).drewN nq))
      have HX := Lib.hid ((wb_nil w ⟨7, queue, which, value, raw, ix, life⟩ i l).drewN nq)
      generalize (wb w ⟨7, queue, which, value, raw, ix, life⟩ i l).drewN nq = X at *
      obtain ⟨x1, x2, x3⟩ := HL.out.lt
      clear hqc hW0 hW1 hW2 hW3 hWf
      have HLd := Lib.hid (HL.out.nil (Only.refl _ _).drew)
      have HBd := Lib.hid (HB.out.nil (Only.refl _ _).drew)
      go_region_held3 (fun w' => (w'.cell? ⟨W, 0, none⟩ = some (.pointer (some ⟨A, 0, none⟩)) ∧ w'.cell? ⟨W, 1, none⟩ = some (.slice (some ⟨g1, 0, none⟩) (blks s).length c1) ∧ w'.cell? ⟨W, 2, none⟩ = some (.pointer (some ⟨D, 0, none⟩)) ∧ w'.cell? ⟨W, 3, none⟩ = some vh ∧ w'.cell? ⟨w.heap.size, 0, none⟩ = some (.int .i64 7) ∧ w'.cell? ⟨w.heap.size, 1, none⟩ = some (.int .i64 queue) ∧ w'.cell? ⟨w.heap.size, 3, none⟩ = some (.int .i64 value) ∧ w'.cell? ⟨w.heap.size + 1, 0, none⟩ = some (.int .u32 i) ∧ w'.cell? ⟨w.heap.size + 1, 1, none⟩ = some (.int .u32 l)) ∧ Lw w w' W A D (blks s) hs (.slice (some ⟨g1, 0, none⟩) (blks s).length c1) vh ⟨7, queue, which, value, raw, ix, life⟩ i l)
        (first | exact HSof.out _ HLd.out | exact HSof.out _ (Lw.own (by assumption) ho1) | exact HSof.out _ (Lw.own (by assumption) ho2))
        ((first
        | (go_at_call 76; go_split_ands; (refine (HP.out B _ A D (refOf s Ls) HBd.out).mono ?_); rintro e wg1 ⟨rfl, s', hp, hbl, hrf, hb1, ho1⟩)
        | (go_at_call 77; go_split_ands; (refine (HR.out B _ A D s' hb1).mono ?_); rintro e wg2 ⟨rfl, hb2, ho2⟩)))
      go_wp2
      go_ret
      exact ⟨rfl, s', Ls', hs, _, vh, H.out.with (hrf.symm ▸ hb2) hp hbl ((HLd.out.own ho1).own ho2).r, by omega, by omega, only2 HX.out ho1 ho2⟩
  · have hjt' : t + ((blks s).length : Int) = (j : Int) := hjt
    have ht2 : t = (j : Int) - ((blks s).length : Int) := by omega
    clear hjt
    as_aux_lemma =>
      go_enter Try.func31, Try.ntmps31
      go_wp2
      go_quiet (fail)
      go_wp2
      change Code.wp _ _ _ _ ((wb w ⟨7, queue, which, value, raw, ix, life⟩ i l).drewN nq)
      have HL := Lib.hid ((wb_lw H.out ⟨7, queue, which, value, raw, ix, life⟩ i l).nil ((Only.refl _ _).drewN nq))
      have HB := Lib.hid ((H.out.both.nil (wb_nil w ⟨7, queue, which, value, raw, ix, life⟩ i l)).nil ((Only.refl _ _).drewN nq))
      have HX := Lib.hid ((wb_nil w ⟨7, queue, which, value, raw, ix, life⟩ i l).drewN nq)
      generalize (wb w ⟨7, queue, which, value, raw, ix, life⟩ i l).drewN nq = X at *
      obtain ⟨x1, x2, x3⟩ := HL.out.lt
      clear hqc hW0 hW1 hW2 hW3 hWf
      have HLd := Lib.hid (HL.out.nil (Only.refl _ _).drew)
      have HBd := Lib.hid (HB.out.nil (Only.refl _ _).drew)
      go_region_held3 (fun w' => (w'.cell? ⟨W, 0, none⟩ = some (.pointer (some ⟨A, 0, none⟩)) ∧ w'.cell? ⟨W, 1, none⟩ = some (.slice (some ⟨g1, 0, none⟩) (blks s).length c1) ∧ w'.cell? ⟨W, 2, none⟩ = some (.pointer (some ⟨D, 0, none⟩)) ∧ w'.cell? ⟨W, 3, none⟩ = some vh ∧ w'.cell? ⟨w.heap.size, 0, none⟩ = some (.int .i64 7) ∧ w'.cell? ⟨w.heap.size, 1, none⟩ = some (.int .i64 queue) ∧ w'.cell? ⟨w.heap.size, 3, none⟩ = some (.int .i64 value) ∧ w'.cell? ⟨w.heap.size + 1, 0, none⟩ = some (.int .u32 i) ∧ w'.cell? ⟨w.heap.size + 1, 1, none⟩ = some (.int .u32 l)) ∧ Lw w w' W A D (blks s) hs (.slice (some ⟨g1, 0, none⟩) (blks s).length c1) vh ⟨7, queue, which, value, raw, ix, life⟩ i l)
        (first | exact HSof.out _ HLd.out | exact HSof.out _ (Lw.own (by assumption) ho1) | exact HSof.out _ (Lw.own (by assumption) ho2))
        ((first
        | (go_at_call 76; go_split_ands; (refine (HP.out B _ A D (refOf s Ls) HBd.out).mono ?_); rintro e wg1 ⟨rfl, s', hp, hbl, hrf, hb1, ho1⟩)
        | (go_at_call 77; go_split_ands; (refine (HR.out B _ A D s' hb1).mono ?_); rintro e wg2 ⟨rfl, hb2, ho2⟩)))
      go_wp2
      go_ret
      exact ⟨rfl, s', Ls', hs, _, vh, H.out.with (hrf.symm ▸ hb2) hp hbl ((HLd.out.own ho1).own ho2).r, by omega, by omega, only2 HX.out ho1 ho2⟩
set_option maxHeartbeats 6400000 in
set_option maxRecDepth 100000 in
theorem queues_sweep {B : Nat → Prop} {w : World} {W A D : Nat} {s : Ar} {Ls : List (List Nat)} {hs : List Hd} {vq vh : Value} (h : Wl B w W A D s Ls hs vq vh) (o : Opv) (i l : Nat) (hn : Ls.length ≤ 4194304) (j : Nat) (hj : JAt s o j) (hk : o.kind = 9) :
    Calls Try.prog 31 #[.pointer (some ⟨W, 0, none⟩), .agg (ocs o), hv i l] w fun e w' => e = .returned (.bool true) ∧ Done B w W A D Ls hs w' := by
  obtain ⟨kind, queue, which, value, raw, ix, life⟩ := o
  simp only at hk
  subst hk
  obtain ⟨hjl, hjt⟩ := hj
  simp only at hjt
  have hLl : (blks s).length = Ls.length := by unfold blks; rw [List.length_map, h.pl.len]
  obtain ⟨q, L, hq, hL, _⟩ := h.pl.q (j := j) (by omega)
  obtain ⟨f, Ls', r', hLl2, PCd, RCd⟩ := sweep_both h.pl hn hq hL
  obtain ⟨g1, c1, e1, hg1, hc1, _⟩ := own_row h.r.q (by omega)
  subst e1
  have hqc : w.cell? ⟨g1, j, none⟩ = some (.pointer (some ⟨q.blk, 0, none⟩)) := own_cell h.r.q (by unfold blks; rw [List.map_map, List.getElem?_map, hq]; rfl)
  obtain ⟨hW0, hW1, hW2, hW3, hWf, hWlt⟩ := h.cells
  have HP := Lib.hid PCd
  have HR := Lib.hid RCd
  have HSof := Lib.hid (fun X (hx : Lw w X W A D (blks s) hs (.slice (some ⟨g1, 0, none⟩) (blks s).length c1) vh ⟨9, queue, which, value, raw, ix, life⟩ i l) => And.intro hx.cells hx)
  have H := Lib.hid h
  unfold Lc at HSof
  have hpos : (0 : Int) < ((blks s).length : Int) := by omega
  have hne : ((blks s).length : Int) ≠ 0 := by omega
  have hne2 : (((blks s).length : Int) == 0) = false := beq_eq_false_iff_ne.2 hne
  have hjI : (j : Int) < ((blks s).length : Int) := by omega
  have ht1 := Int.tmod_lt_of_pos queue hpos
  have hm4 : (blks s).length ≤ 4194304 := by omega
  have HLl := Lib.hid hLl
  clear h PCd RCd hq hL hLl
  show Calls _ _ #[.pointer (some ⟨W, 0, none⟩), .agg #[.int .i64 9, .int .i64 queue, .int .i64 which, .int .i64 value, .bool raw, .int .u32 ix, .int .u32 life], .agg #[.int .u32 i, .int .u32 l]] _ _
  generalize ht : Int.tmod queue ((blks s).length : Int) = t at *
  rcases hjt with hjt | ⟨hng, hjt⟩
  · have hng : ¬ t < 0 := by omega
    subst hjt
    as_aux_lemma =>
      go_enter Try.func31, Try.ntmps31
      go_wp2
      go_quiet (fail)
      go_wp2
      change Code.wp _ _ _ _ ((wb w ⟨9, queue, which, value, raw, ix, life⟩ i l).drewN nq)
      have HL := Lib.hid ((wb_lw H.out ⟨9, queue, which, value, raw, ix, life⟩ i l).nil ((Only.refl _ _).drewN nq))
      have HB := Lib.hid ((H.out.both.nil (wb_nil w ⟨9, queue, which, value, raw, ix, life⟩ i l)).nil ((Only.refl _ _).drewN nq))
      have HX := Lib.hid ((wb_nil w ⟨9, queue, which, value, raw, ix, life⟩ i l).drewN nq)
      generalize (wb w ⟨9, queue, which, value, raw, ix, life⟩ i l).drewN nq = X at *
      obtain ⟨x1, x2, x3⟩ := HL.out.lt
      clear hqc hW0 hW1 hW2 hW3 hWf
      have HLd := Lib.hid (HL.out.nil (Only.refl _ _).drew)
      have HBd := Lib.hid (HB.out.nil (Only.refl _ _).drew)
      go_region_held3 (fun w' => (w'.cell? ⟨W, 0, none⟩ = some (.pointer (some ⟨A, 0, none⟩)) ∧ w'.cell? ⟨W, 1, none⟩ = some (.slice (some ⟨g1, 0, none⟩) (blks s).length c1) ∧ w'.cell? ⟨W, 2, none⟩ = some (.pointer (some ⟨D, 0, none⟩)) ∧ w'.cell? ⟨W, 3, none⟩ = some vh ∧ w'.cell? ⟨w.heap.size, 0, none⟩ = some (.int .i64 9) ∧ w'.cell? ⟨w.heap.size, 1, none⟩ = some (.int .i64 queue) ∧ w'.cell? ⟨w.heap.size, 3, none⟩ = some (.int .i64 value) ∧ w'.cell? ⟨w.heap.size + 1, 0, none⟩ = some (.int .u32 i) ∧ w'.cell? ⟨w.heap.size + 1, 1, none⟩ = some (.int .u32 l)) ∧ Lw w w' W A D (blks s) hs (.slice (some ⟨g1, 0, none⟩) (blks s).length c1) vh ⟨9, queue, which, value, raw, ix, life⟩ i l)
        (first | exact HSof.out _ HLd.out | exact HSof.out _ (Lw.own (by assumption) ho1) | exact HSof.out _ (Lw.own (by assumption) ho2))
        ((first
        | (go_at_call 80; go_split_ands; (refine (HP.out B _ A D (refOf s Ls) HBd.out).mono ?_); rintro e wg1 ⟨rfl, s', hp, hbl, hrf, hb1, ho1⟩)
        | (go_at_call 81; go_split_ands; (refine (HR.out B _ A D s' hb1).mono ?_); rintro e wg2 ⟨rfl, hb2, ho2⟩)))
      go_wp2
      go_ret
      exact ⟨rfl, s', Ls', hs, _, vh, H.out.with (hrf.symm ▸ hb2) hp hbl ((HLd.out.own ho1).own ho2).r, by omega, by omega, only2 HX.out ho1 ho2⟩
  · have hjt' : t + ((blks s).length : Int) = (j : Int) := hjt
    have ht2 : t = (j : Int) - ((blks s).length : Int) := by omega
    clear hjt
    as_aux_lemma =>
      go_enter Try.func31, Try.ntmps31
      go_wp2
      go_quiet (fail)
      go_wp2
      change Code.wp _ _ _ _ ((wb w ⟨9, queue, which, value, raw, ix, life⟩ i l).drewN nq)
      have HL := Lib.hid ((wb_lw H.out ⟨9, queue, which, value, raw, ix, life⟩ i l).nil ((Only.refl _ _).drewN nq))
      have HB := Lib.hid ((H.out.both.nil (wb_nil w ⟨9, queue, which, value, raw, ix, life⟩ i l)).nil ((Only.refl _ _).drewN nq))
      have HX := Lib.hid ((wb_nil w ⟨9, queue, which, value, raw, ix, life⟩ i l).drewN nq)
      generalize (wb w ⟨9, queue, which, value, raw, ix, life⟩ i l).drewN nq = X at *
      obtain ⟨x1, x2, x3⟩ := HL.out.lt
      clear hqc hW0 hW1 hW2 hW3 hWf
      have HLd := Lib.hid (HL.out.nil (Only.refl _ _).drew)
      have HBd := Lib.hid (HB.out.nil (Only.refl _ _).drew)
      go_region_held3 (fun w' => (w'.cell? ⟨W, 0, none⟩ = some (.pointer (some ⟨A, 0, none⟩)) ∧ w'.cell? ⟨W, 1, none⟩ = some (.slice (some ⟨g1, 0, none⟩) (blks s).length c1) ∧ w'.cell? ⟨W, 2, none⟩ = some (.pointer (some ⟨D, 0, none⟩)) ∧ w'.cell? ⟨W, 3, none⟩ = some vh ∧ w'.cell? ⟨w.heap.size, 0, none⟩ = some (.int .i64 9) ∧ w'.cell? ⟨w.heap.size, 1, none⟩ = some (.int .i64 queue) ∧ w'.cell? ⟨w.heap.size, 3, none⟩ = some (.int .i64 value) ∧ w'.cell? ⟨w.heap.size + 1, 0, none⟩ = some (.int .u32 i) ∧ w'.cell? ⟨w.heap.size + 1, 1, none⟩ = some (.int .u32 l)) ∧ Lw w w' W A D (blks s) hs (.slice (some ⟨g1, 0, none⟩) (blks s).length c1) vh ⟨9, queue, which, value, raw, ix, life⟩ i l)
        (first | exact HSof.out _ HLd.out | exact HSof.out _ (Lw.own (by assumption) ho1) | exact HSof.out _ (Lw.own (by assumption) ho2))
        ((first
        | (go_at_call 80; go_split_ands; (refine (HP.out B _ A D (refOf s Ls) HBd.out).mono ?_); rintro e wg1 ⟨rfl, s', hp, hbl, hrf, hb1, ho1⟩)
        | (go_at_call 81; go_split_ands; (refine (HR.out B _ A D s' hb1).mono ?_); rintro e wg2 ⟨rfl, hb2, ho2⟩)))
      go_wp2
      go_ret
      exact ⟨rfl, s', Ls', hs, _, vh, H.out.with (hrf.symm ▸ hb2) hp hbl ((HLd.out.own ho1).own ho2).r, by omega, by omega, only2 HX.out ho1 ho2⟩
end Al
end Go.Proofs.Ytnhedhmffgaohaa
