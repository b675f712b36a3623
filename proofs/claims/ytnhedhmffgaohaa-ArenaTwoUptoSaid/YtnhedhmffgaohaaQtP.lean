/- The walks of a queue's functions that stand on 'out': here, NewQueue, Push, Mark, Remove, next, told. -/
import Derived.Test.YtnhedhmffgaohaaQtO
import Derived.Test.YtnhedhmffgaohaaHd
namespace Go.Proofs.Ytnhedhmffgaohaa
open Go.RowKit
namespace ArT

theorem QAt.mk' {w w1 : World} {A g c i j : Nat} {s : Ar} {vf : Value} {q : Qu} {d : Nd} (h : QAt w A g c i j s vf q d) (ho : Only Nil w w1) : QAt w1 A g c i j s vf q d :=
  ⟨h.rep.only ho (fun _ _ h => h), h.wf, h.nodup, h.hq, h.hd, h.lo⟩

/-! ### out, whatever the neighbours -/
/-- A neighbour: none, or a place other than i. -/
def Nbr (ns : List Nd) (i : Nat) (a : Int) : Prop := a = -1 ∨ ∃ (k : Nat) (d : Nd), a = (k : Int) ∧ ns[k]? = some d ∧ k ≠ i
theorem out_any (A g c i j : Nat) (s : Ar) (vf : Value) (q : Qu) (d : Nd) (w : World) (h : QAt w A g c i j s vf q d) (ha : Nbr s.nodes i d.ahead) (hb : Nbr s.nodes i d.back) (hab : d.ahead = d.back → d.ahead = -1) :
    Calls Try.prog 121 #[.pointer (some ⟨q.blk, 0, none⟩), .int .i64 i] w fun e w' => e = .returned (.tuple #[]) ∧
      ArRep w' A { s with nodes := outN s.nodes i d, qs := s.qs.set j (outQ q d) } (.slice (some ⟨g, 0, none⟩) s.nodes.length c) vf ∧ Only (fun x => x = q.blk ∨ x = g) w w' := by
  rcases ha with ha | ⟨a, da, ha, hda, hai⟩
  · rcases hb with hb | ⟨b, db, hb, hdb, hbi⟩
    · exact out_NN A g c i j s vf q d w h ha hb
    · exact out_NS A g c i j b s vf q d db w h ha hb hdb hbi
  · rcases hb with hb | ⟨b, db, hb, hdb, hbi⟩
    · exact out_SN A g c i j a s vf q d da w h ha hb hda hai
    · exact out_mid A g c i j a b s vf q d da db w h ha hb hda hdb hai hbi (by rintro rfl; have := hab (by omega); omega)

/-! ### here -/
set_option maxHeartbeats 800000 in
set_option maxRecDepth 100000 in
theorem here_ok (A g c i j : Nat) (s : Ar) (vf : Value) (q : Qu) (d : Nd) (w : World) (h : QAt w A g c i j s vf q d) (ht : d.taken = true) (hin : d.inq = some q.blk) :
    Calls Try.prog 117 #[.pointer (some ⟨q.blk, 0, none⟩), .agg #[.int .u32 i, .int .u32 d.life]] w fun e w' => e = .returned (.tuple #[.pointer (some ⟨g, i * 8, none⟩), .int .i64 0]) ∧ Only Nil w w' := by
  have Sof : ∀ W, Only Nil (w.alloc (.cells #[.int .u32 i, .int .u32 d.life] tH)) W → W.cell? ⟨w.heap.size, 0, none⟩ = some (.int .u32 i) ∧ W.cell? ⟨w.heap.size, 1, none⟩ = some (.int .u32 d.life) ∧ W.cell? ⟨q.blk, 0, none⟩ = some (.pointer (some ⟨A, 0, none⟩)) ∧ Only Nil (w.alloc (.cells #[.int .u32 i, .int .u32 d.life] tH)) W := fun W ho => by
    have hbx := box_after' ho
    have hq := (h.mk' (((Only.refl Nil w).alloc _).trans ho (fun _ _ h => h))).rep.base h.hq
    exact ⟨blk_cell hbx 0, blk_cell hbx 1, hq.2.1, ho⟩
  have HSof := Lib.hid Sof
  have HG := Lib.hid (fun W (ho : Only Nil (w.alloc (.cells #[.int .u32 i, .int .u32 d.life] tH)) W) => good_yes A g c i s vf d W (h.mk' (((Only.refl Nil w).alloc _).trans ho (fun _ _ h => h))).rep h.wf h.hd ht)
  have H := Lib.hid h
  have Hin := Lib.hid hin
  have hqlt : q.blk < w.heap.size := (h.rep.base h.hq).2.2.2.2.2.2.2.2.2.1
  have hns := fun W => neq_q_self W q.blk
  clear Sof h hin
  go_enter Try.func117, Try.ntmps117
  go_wp2
  go_region_held3 (fun w' => w'.cell? ⟨w.heap.size, 0, none⟩ = some (.int .u32 i) ∧ w'.cell? ⟨w.heap.size, 1, none⟩ = some (.int .u32 d.life) ∧ w'.cell? ⟨q.blk, 0, none⟩ = some (.pointer (some ⟨A, 0, none⟩)) ∧ Only Nil (w.alloc (.cells #[.int .u32 i, .int .u32 d.life] tH)) w')
    (first | exact HSof.out _ (Only.refl _ _).drew | exact HSof.out _ (Only.trans (S := Nil) (T := Nil) (by assumption) hog (fun _ _ h => h)))
    ((first
      | (go_at_call 115; go_split_ands; (refine (HG.out _ (by assumption)).mono ?_); rintro e wg ⟨rfl, hog⟩)))
  have o1 : Only Nil w wg := (((Only.refl Nil w).alloc _).drew).trans hog (fun _ _ h => h)
  have h1 := H.out.mk' o1
  obtain ⟨y, y', hn⟩ := node_of h1.rep.n h1.wf.cells h1.hd
  have hn4 := hn.c4
  rw [Hin.out] at hn4
  simp only [qptr, Option.map_some] at hn4
  have hlt : g < wg.heap.size := own_lt h1.rep.n rfl
  clear hn
  go_wp2
  go_ret2
  exact ⟨rfl, o1⟩

/-! ### NewQueue -/
theorem newQueue_any (A : Nat) (w : World) :
    Calls Try.prog 67 #[.pointer (some ⟨A, 0, none⟩)] w fun e w' => e = .returned (.pointer (some ⟨w.heap.size, 0, none⟩)) ∧
      w' = w.alloc (.cells #[.pointer (some ⟨A, 0, none⟩), .int .i64 (-1), .int .i64 (-1), .int .i64 0, .int .i64 0] tQ) := by
  go_enter Try.func67, Try.ntmps67
  go_wp2
  go_ret
  exact ⟨rfl, rfl⟩

/-! ### Push -/
theorem ArRep.setQ' {w : World} {A j : Nat} {s : Ar} {ns : List Nd} {vn vf u : Value} {q q1 q' : Qu} (h : ArRep w A { s with nodes := ns, qs := s.qs.set j q1 } vn vf) (hn : (s.qs.map Qu.blk).Nodup) (hq : s.qs[j]? = some q) (hb1 : q1.blk = q.blk) (k : Nat) (hb : q'.blk = q1.blk) (he : Qu.cells A q' = (Qu.cells A q1).setIfInBounds k u) :
    ArRep (w.setCell ⟨q.blk, k, none⟩ u) A { s with nodes := ns, qs := s.qs.set j q' } vn vf := by
  have h1 := h.setQ (j := j) (q := q1) (q' := q') (by show ((s.qs.set j q1).map Qu.blk).Nodup; rw [blk_map_set hq hb1]; exact hn) (List.getElem?_set_self (List.getElem?_eq_some_iff.1 hq).1) k hb he
  rw [hb1] at h1
  simpa only [List.set_set] using h1
theorem ArRep.setN' {w : World} {A g c n i k : Nat} {s : Ar} {ns : List Nd} {qs : List Qu} {vf u : Value} {d1 d' : Nd} (h : ArRep w A { s with nodes := ns.set i d1, qs := qs } (.slice (some ⟨g, 0, none⟩) n c) vf) (hi : i < ns.length) (hv : ∀ d ∈ ns, d.v.length = 2) (hv1 : d1.v.length = 2) (hk : k < 8) (he : d'.cells = d1.cells.set k u) :
    ArRep (w.setCell ⟨g, i * 8 + k, none⟩ u) A { s with nodes := ns.set i d', qs := qs } (.slice (some ⟨g, 0, none⟩) n c) vf := by
  have h1 := h.setN (d := d1) (d' := d') (v_set hv hv1) (List.getElem?_set_self hi) hk he
  simpa only [List.set_set] using h1
theorem push_stores {w : World} {A g c i j : Nat} {s : Ar} {vf : Value} {q : Qu} {d : Nd} (h : QAt w A g c i j s vf q d) :
    ArRep ((((w.setCell ⟨g, i * 8 + 5, none⟩ (.pointer (some ⟨q.blk, 0, none⟩))).setCell ⟨g, i * 8 + 4, none⟩ (.bool false)).setCell ⟨g, i * 8 + 6, none⟩ (.int .i64 q.last)).setCell ⟨g, i * 8 + 7, none⟩ (.int .i64 (-1))) A
      { s with nodes := s.nodes.set i (pushD q d) } (.slice (some ⟨g, 0, none⟩) s.nodes.length c) vf := by
  have hi : i < s.nodes.length := (List.getElem?_eq_some_iff.1 h.hd).1
  have hvd := h.wf.cells d (List.mem_of_getElem? h.hd)
  have r1 := h.rep.setN h.wf.cells h.hd (k := 5) (u := .pointer (some ⟨q.blk, 0, none⟩)) (d' := { d with inq := some q.blk }) (by omega) (set_inq hvd (some q.blk))
  have r2 := ArRep.setN' r1 hi h.wf.cells hvd (k := 4) (u := .bool false) (d' := { d with inq := some q.blk, dead := false }) (by omega) (set_dead (d := { d with inq := some q.blk }) hvd false)
  have r3 := ArRep.setN' r2 hi h.wf.cells hvd (k := 6) (u := .int .i64 q.last) (d' := { d with inq := some q.blk, dead := false, ahead := q.last }) (by omega) (set_ahead (d := { d with inq := some q.blk, dead := false }) hvd q.last)
  have r4 := ArRep.setN' r3 hi h.wf.cells hvd (k := 7) (u := .int .i64 (-1)) (d' := pushD q d) (by omega) (set_back (d := { d with inq := some q.blk, dead := false, ahead := q.last }) hvd (-1))
  exact r4

set_option maxHeartbeats 1600000 in
set_option maxRecDepth 100000 in
theorem push_N (A g c i j : Nat) (s : Ar) (vf : Value) (q : Qu) (d : Nd) (w : World) (h : QAt w A g c i j s vf q d) (ht : d.taken = true) (hin : d.inq = none) (hl : q.last = -1) :
    Calls Try.prog 70 #[.pointer (some ⟨q.blk, 0, none⟩), .agg #[.int .u32 i, .int .u32 d.life]] w fun e w' => e = .returned (.int .i64 0) ∧
      ArRep w' A { s with nodes := pushN s.nodes i q d, qs := s.qs.set j (pushQ q i) } (.slice (some ⟨g, 0, none⟩) s.nodes.length c) vf ∧ Only (fun x => x = q.blk ∨ x = g) w w' := by
  have hi : i < s.nodes.length := (List.getElem?_eq_some_iff.1 h.hd).1
  have hlen := h.wf.len
  have hroom := h.wf.room
  obtain ⟨hl1, hl2, hl3, hl4⟩ := h.lo
  have Sof : ∀ W, Only Nil (w.alloc (.cells #[.int .u32 i, .int .u32 d.life] tH)) W → W.cell? ⟨w.heap.size, 0, none⟩ = some (.int .u32 i) ∧ W.cell? ⟨w.heap.size, 1, none⟩ = some (.int .u32 d.life) ∧ W.cell? ⟨q.blk, 0, none⟩ = some (.pointer (some ⟨A, 0, none⟩)) ∧ Only Nil (w.alloc (.cells #[.int .u32 i, .int .u32 d.life] tH)) W := fun W ho => by
    have hbx := box_after' ho
    have hq := (h.mk' (((Only.refl Nil w).alloc _).trans ho (fun _ _ h => h))).rep.base h.hq
    exact ⟨blk_cell hbx 0, blk_cell hbx 1, hq.2.1, ho⟩
  have HSof := Lib.hid Sof
  have HG := Lib.hid (fun W (ho : Only Nil (w.alloc (.cells #[.int .u32 i, .int .u32 d.life] tH)) W) => good_yes A g c i s vf d W (h.mk' (((Only.refl Nil w).alloc _).trans ho (fun _ _ h => h))).rep h.wf h.hd ht)
  have hqlt : q.blk < w.heap.size := (h.rep.base h.hq).2.2.2.2.2.2.2.2.2.1
  have H := Lib.hid h
  have Hin := Lib.hid hin
  have Hl := Lib.hid hl
  clear Sof h hin hl
  go_enter Try.func70, Try.ntmps70
  go_wp2
  go_region_held3 (fun w' => w'.cell? ⟨w.heap.size, 0, none⟩ = some (.int .u32 i) ∧ w'.cell? ⟨w.heap.size, 1, none⟩ = some (.int .u32 d.life) ∧ w'.cell? ⟨q.blk, 0, none⟩ = some (.pointer (some ⟨A, 0, none⟩)) ∧ Only Nil (w.alloc (.cells #[.int .u32 i, .int .u32 d.life] tH)) w')
    (first | exact HSof.out _ (Only.refl _ _).drew | exact HSof.out _ (Only.trans (S := Nil) (T := Nil) (by assumption) hog (fun _ _ h => h)))
    ((first
      | (go_at_call 115; go_split_ands; (refine (HG.out _ (by assumption)).mono ?_); rintro e wg ⟨rfl, hog⟩)))
  have hbx := box_after' (w := w) (o := .cells #[.int .u32 i, .int .u32 d.life] tH) (((Only.refl _ _).drew).trans hog (fun _ _ h => h))
  have o1 : Only Nil w wg := (((Only.refl Nil w).alloc _).drew).trans hog (fun _ _ h => h)
  have hqb : q.blk ≠ w.heap.size := by omega
  have hqb' := hqb.symm
  clear hog
  have h1 := H.out.mk' o1
  obtain ⟨y, y', hn⟩ := node_of h1.rep.n h1.wf.cells h1.hd
  have hn3 := hn.c3
  have hn4 := hn.c4
  have hn5 := hn.c5
  have hn6 := hn.c6
  rw [Hin.out] at hn4
  simp only [qptr, Option.map_none] at hn4
  obtain ⟨hA1, hQ0, hQ1, hQ2, hQ3, hQ4, hqf, hgf, hAlt, hqlt', hglt⟩ := h1.rep.base h1.hq
  obtain ⟨hAq, hqA, hgq, hqg, hgA, hAg⟩ := h1.rep.apartQ h1.hq
  rw [Hl.out] at hQ2
  have hgb : g ≠ w.heap.size := ob_ne' (own_blk_ne h1.rep.n hbx (by decide))
  have hbg := hgb.symm
  have hB0 := blk_cell hbx 0
  simp only [List.getElem?_toArray, List.getElem?_cons_zero] at hB0
  have hblt := blk_lt hbx
  have R := push_stores h1
  have r5 := R.setQ h1.nodup h1.hq 1 (u := .int .i64 i) (q' := { q with first := (i : Int) }) rfl rfl
  have r6 := ArRep.setQ' (s := s) r5 h1.nodup h1.hq rfl 2 (u := .int .i64 i) (q' := { q with first := (i : Int), last := (i : Int) }) rfl rfl
  have r7 := ArRep.setQ' (s := s) r6 h1.nodup h1.hq rfl 3 (u := .int .i64 (q.live + 1)) (q' := { q with first := (i : Int), last := (i : Int), live := q.live + 1 }) rfl rfl
  have hfin : pushN s.nodes i q d = s.nodes.set i (pushD q d) := by unfold pushN; rw [Hl.out, setB_no]
  have hfq : pushQ q i = { q with first := (i : Int), last := (i : Int), live := q.live + 1 } := by unfold pushQ; rw [if_pos Hl.out]
  have Hfin := Lib.hid hfin
  have Hfq := Lib.hid hfq
  have R7 := Lib.hid r7
  obtain ⟨p1, p2, p3, p4, p5, p6, p7, p8, p9, p10, p11, p12⟩ := m7
  clear r5 r6 hn hfin hfq R r7
  go_wp2
  go_ret
  refine ⟨rfl, ?_, ?_⟩
  · have e := R7.out
    rw [Hfin.out, Hfq.out]
    simpa [List.set_set, Hl.out] using e
  · exact (((((((o1.mono (fun _ _ h => h.elim)).setCell (p := ⟨g, i * 8 + 5, none⟩) (.inl (.inr rfl)) _).setCell (p := ⟨g, i * 8 + 4, none⟩) (.inl (.inr rfl)) _).setCell (p := ⟨g, i * 8 + 6, none⟩) (.inl (.inr rfl)) _).setCell (p := ⟨g, i * 8 + 7, none⟩) (.inl (.inr rfl)) _).setCell (p := ⟨q.blk, 1, none⟩) (.inl (.inl rfl)) _).setCell (p := ⟨q.blk, 2, none⟩) (.inl (.inl rfl)) _).setCell (p := ⟨q.blk, 3, none⟩) (.inl (.inl rfl)) _
set_option maxHeartbeats 1600000 in
set_option maxRecDepth 100000 in
theorem push_S (A g c i j b : Nat) (s : Ar) (vf : Value) (q : Qu) (d db : Nd) (w : World) (h : QAt w A g c i j s vf q d) (ht : d.taken = true) (hin : d.inq = none) (hl : q.last = (b : Int)) (hdb : s.nodes[b]? = some db) (hbi : b ≠ i) :
    Calls Try.prog 70 #[.pointer (some ⟨q.blk, 0, none⟩), .agg #[.int .u32 i, .int .u32 d.life]] w fun e w' => e = .returned (.int .i64 0) ∧
      ArRep w' A { s with nodes := pushN s.nodes i q d, qs := s.qs.set j (pushQ q i) } (.slice (some ⟨g, 0, none⟩) s.nodes.length c) vf ∧ Only (fun x => x = q.blk ∨ x = g) w w' := by
  have hi : i < s.nodes.length := (List.getElem?_eq_some_iff.1 h.hd).1
  have hlen := h.wf.len
  have hroom := h.wf.room
  obtain ⟨hl1, hl2, hl3, hl4⟩ := h.lo
  have Sof : ∀ W, Only Nil (w.alloc (.cells #[.int .u32 i, .int .u32 d.life] tH)) W → W.cell? ⟨w.heap.size, 0, none⟩ = some (.int .u32 i) ∧ W.cell? ⟨w.heap.size, 1, none⟩ = some (.int .u32 d.life) ∧ W.cell? ⟨q.blk, 0, none⟩ = some (.pointer (some ⟨A, 0, none⟩)) ∧ Only Nil (w.alloc (.cells #[.int .u32 i, .int .u32 d.life] tH)) W := fun W ho => by
    have hbx := box_after' ho
    have hq := (h.mk' (((Only.refl Nil w).alloc _).trans ho (fun _ _ h => h))).rep.base h.hq
    exact ⟨blk_cell hbx 0, blk_cell hbx 1, hq.2.1, ho⟩
  have HSof := Lib.hid Sof
  have HG := Lib.hid (fun W (ho : Only Nil (w.alloc (.cells #[.int .u32 i, .int .u32 d.life] tH)) W) => good_yes A g c i s vf d W (h.mk' (((Only.refl Nil w).alloc _).trans ho (fun _ _ h => h))).rep h.wf h.hd ht)
  have hqlt : q.blk < w.heap.size := (h.rep.base h.hq).2.2.2.2.2.2.2.2.2.1
  have hbl : b < s.nodes.length := (List.getElem?_eq_some_iff.1 hdb).1
  have hvb := h.wf.cells db (List.mem_of_getElem? hdb)
  have hvd := h.wf.cells d (List.mem_of_getElem? h.hd)
  have H := Lib.hid h
  have Hdb := Lib.hid hdb
  have Hin := Lib.hid hin
  have Hl := Lib.hid hl
  clear Sof h hin hl hdb
  go_enter Try.func70, Try.ntmps70
  go_wp2
  go_region_held3 (fun w' => w'.cell? ⟨w.heap.size, 0, none⟩ = some (.int .u32 i) ∧ w'.cell? ⟨w.heap.size, 1, none⟩ = some (.int .u32 d.life) ∧ w'.cell? ⟨q.blk, 0, none⟩ = some (.pointer (some ⟨A, 0, none⟩)) ∧ Only Nil (w.alloc (.cells #[.int .u32 i, .int .u32 d.life] tH)) w')
    (first | exact HSof.out _ (Only.refl _ _).drew | exact HSof.out _ (Only.trans (S := Nil) (T := Nil) (by assumption) hog (fun _ _ h => h)))
    ((first
      | (go_at_call 115; go_split_ands; (refine (HG.out _ (by assumption)).mono ?_); rintro e wg ⟨rfl, hog⟩)))
  have hbx := box_after' (w := w) (o := .cells #[.int .u32 i, .int .u32 d.life] tH) (((Only.refl _ _).drew).trans hog (fun _ _ h => h))
  have o1 : Only Nil w wg := (((Only.refl Nil w).alloc _).drew).trans hog (fun _ _ h => h)
  have hqb : q.blk ≠ w.heap.size := by omega
  have hqb' := hqb.symm
  clear hog
  have h1 := H.out.mk' o1
  obtain ⟨y, y', hn⟩ := node_of h1.rep.n h1.wf.cells h1.hd
  have hn3 := hn.c3
  have hn4 := hn.c4
  have hn5 := hn.c5
  have hn6 := hn.c6
  rw [Hin.out] at hn4
  simp only [qptr, Option.map_none] at hn4
  obtain ⟨hA1, hQ0, hQ1, hQ2, hQ3, hQ4, hqf, hgf, hAlt, hqlt', hglt⟩ := h1.rep.base h1.hq
  obtain ⟨hAq, hqA, hgq, hqg, hgA, hAg⟩ := h1.rep.apartQ h1.hq
  rw [Hl.out] at hQ2
  have hgb : g ≠ w.heap.size := ob_ne' (own_blk_ne h1.rep.n hbx (by decide))
  have hbg := hgb.symm
  have R := push_stores h1
  have o2 := ((((o1.mono (T := fun x => x = q.blk ∨ x = g) (fun _ _ h => h.elim)).setCell (p := ⟨g, i * 8 + 5, none⟩) (.inl (.inr rfl)) (.pointer (some ⟨q.blk, 0, none⟩))).setCell (p := ⟨g, i * 8 + 4, none⟩) (.inl (.inr rfl)) (.bool false)).setCell (p := ⟨g, i * 8 + 6, none⟩) (.inl (.inr rfl)) (.int .i64 q.last)).setCell (p := ⟨g, i * 8 + 7, none⟩) (.inl (.inr rfl)) (.int .i64 (-1))
  have hb2 := blk_far (blk_far (blk_far (blk_far hbx (p := ⟨g, i * 8 + 5, none⟩) hbg (.pointer (some ⟨q.blk, 0, none⟩))) (p := ⟨g, i * 8 + 4, none⟩) hbg (.bool false)) (p := ⟨g, i * 8 + 6, none⟩) hbg (.int .i64 q.last)) (p := ⟨g, i * 8 + 7, none⟩) hbg (.int .i64 (-1))
  rw [Hl.out] at R o2 hb2
  have hblt := blk_lt hbx
  have ht1 : ((b : Int) == -1) = false := beq_eq_false_iff_ne.2 (by omega)
  have hd1 : (s.nodes.set i (pushD q d))[b]? = some db := by rw [List.getElem?_set_ne (Ne.symm hbi)]; exact Hdb.out
  have hv1 := v_set (i := i) h1.wf.cells (d := pushD q d) hvd
  have hfin : pushN s.nodes i q d = (s.nodes.set i (pushD q d)).set b { db with back := (i : Int) } := by unfold pushN; rw [Hl.out, setB_at _ hd1]
  have hfq : pushQ q i = { q with last := (i : Int), live := q.live + 1 } := by unfold pushQ; rw [Hl.out, if_neg (by omega)]
  have Hfin := Lib.hid hfin
  have Hfq := Lib.hid hfq
  have Hd1 := Lib.hid hd1
  obtain ⟨p1, p2, p3, p4, p5, p6, p7, p8, p9, p10, p11, p12⟩ := m7
  have hib := hbi.symm
  clear hn hfin hfq hd1
  go_wp2
  generalize (((wg.setCell ⟨g, i * 8 + 5, none⟩ (.pointer (some ⟨q.blk, 0, none⟩))).setCell ⟨g, i * 8 + 4, none⟩ (.bool false)).setCell ⟨g, i * 8 + 6, none⟩ (.int .i64 (b : Int))).setCell ⟨g, i * 8 + 7, none⟩ (.int .i64 (-1)) = w2 at *
  have hq2 : q.blk < w2.heap.size := (R.base (j := j) (q := q) h1.hq).2.2.2.2.2.2.2.2.2.1
  clear hn3 hn4 hn5 hn6 hA1 hQ0 hQ1 hQ2 hQ3 hQ4 hqf hgf hAlt hqlt' hglt hblt
  obtain ⟨hA1, hQ0, hQ1, hQ2, hQ3, hQ4, hqf, hgf, hAlt, hqlt', hglt⟩ := R.base (j := j) (q := q) h1.hq
  rw [Hl.out] at hQ2
  obtain ⟨z, z', hn⟩ := node_of (by simpa using R.n) hv1 Hd1.out
  have hn6 := hn.c6
  have hB0 := blk_cell hb2 0
  simp only [List.getElem?_toArray, List.getElem?_cons_zero] at hB0
  have hblt := blk_lt hb2
  clear hn
  go_still_tail 16, (by kernel_rfl)
  change wpList _ _ _ _ _ w2.drew
  go_wp2
  go_ret
  have r5 := R.setN hv1 Hd1.out (k := 7) (u := .int .i64 (i : Int)) (by omega) (set_back hvb (i : Int))
  have r6 := r5.setQ h1.nodup h1.hq 2 (u := .int .i64 i) (q' := { q with last := (i : Int) }) rfl rfl
  have r7 := ArRep.setQ' (s := s) r6 h1.nodup h1.hq rfl 3 (u := .int .i64 (q.live + 1)) (q' := { q with last := (i : Int), live := q.live + 1 }) rfl rfl
  refine ⟨rfl, ?_, ?_⟩
  · rw [Hfin.out, Hfq.out]
    exact r7.drewN 1
  · exact ((((o2).setCell (p := ⟨g, b * 8 + 7, none⟩) (.inl (.inr rfl)) _).setCell (p := ⟨q.blk, 2, none⟩) (.inl (.inl rfl)) _).setCell (p := ⟨q.blk, 3, none⟩) (.inl (.inl rfl)) _).drewN 1
end ArT
end Go.Proofs.Ytnhedhmffgaohaa
