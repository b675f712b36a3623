/- The walks of a queue's 'out', and of all that stands on it. (The four walks of 'out' are printed by wip/gen/genout.py.) -/
import Derived.Test.YtnhedhmffgaohaaQtI
namespace Go.Proofs.Ytnhedhmffgaohaa
open Go.RowKit
namespace ArT

theorem blk_map_set {l : List Qu} {j : Nat} {q q' : Qu} (h : l[j]? = some q) (hb : q'.blk = q.blk) : (l.set j q').map Qu.blk = l.map Qu.blk := by
  rw [List.map_set, hb]
  obtain ⟨hj, hq⟩ := List.getElem?_eq_some_iff.1 h
  subst hq
  have : l[j].blk = (l.map Qu.blk)[j]'(by simpa using hj) := by simp
  rw [this, List.set_getElem_self]

set_option maxHeartbeats 1600000 in
set_option maxRecDepth 100000 in
theorem out_NN (A g c i j : Nat) (s : Ar) (vf : Value) (q : Qu) (d : Nd) (w : World) (h : QAt w A g c i j s vf q d) (ha : d.ahead = -1) (hb : d.back = -1) :
    Calls Try.prog 121 #[.pointer (some ⟨q.blk, 0, none⟩), .int .i64 i] w fun e w' => e = .returned (.tuple #[]) ∧
      ArRep w' A { s with nodes := outN s.nodes i d, qs := s.qs.set j (outQ q d) } (.slice (some ⟨g, 0, none⟩) s.nodes.length c) vf ∧ Only (fun x => x = q.blk ∨ x = g) w w' := by
  have hi : i < s.nodes.length := (List.getElem?_eq_some_iff.1 h.hd).1
  have hvd := h.wf.cells d (List.mem_of_getElem? h.hd)
  have hlen := h.wf.len
  have hroom := h.wf.room
  obtain ⟨hl1, hl2, hl3, hl4⟩ := h.lo
  obtain ⟨y, y', hn⟩ := node_of h.rep.n h.wf.cells h.hd
  have hn5 := hn.c5
  have hn6 := hn.c6
  rw [ha] at hn5
  rw [hb] at hn6
  obtain ⟨hA1, hQ0, hQ1, hQ2, hQ3, hQ4, hqf, hgf, hAlt, hqlt, hglt⟩ := h.rep.base h.hq
  obtain ⟨hAq, hqA, hgq, hqg, hgA, hAg⟩ := h.rep.apartQ h.hq
  obtain ⟨N1, hN1⟩ : ∃ N1, N1 = s.nodes := ⟨_, rfl⟩
  have hN1b : N1 = setB s.nodes d.ahead d.back := by rw [ha, setB_no, hN1]
  have hd1 : N1[i]? = some d := by rw [hN1]; exact h.hd
  have hv1 : ∀ x ∈ N1, x.v.length = 2 := by rw [hN1]; exact h.wf.cells
  have hl1' : N1.length = s.nodes.length := by rw [hN1]
  obtain ⟨q1, hq1⟩ : ∃ q1 : Qu, q1 = { q with first := (-1) } := ⟨_, rfl⟩
  have hq1f : q1.first = if d.ahead = -1 then d.back else q.first := by rw [hq1, ha, hb, if_pos rfl]
  obtain ⟨Q1, hQ1e⟩ : ∃ Q1, Q1 = s.qs.set j q1 := ⟨_, rfl⟩
  have hqq1 : Q1[j]? = some q1 := by rw [hQ1e]; exact List.getElem?_set_self (List.getElem?_eq_some_iff.1 h.hq).1
  have hnd1 : (Q1.map Qu.blk).Nodup := by rw [hQ1e, blk_map_set h.hq (by rw [hq1])]; exact h.nodup
  have r1 := h.rep.setQ h.nodup h.hq 1 (u := .int .i64 (-1)) (q' := q1) (by rw [hq1]) (by rw [hq1]; rfl)
  have o1 := (Only.refl (fun x => x = q.blk ∨ x = g) w).setCell (p := ⟨q.blk, 1, none⟩) (.inl (.inl rfl)) (.int .i64 (-1))
  replace r1 : ArRep (w.setCell ⟨q.blk, 1, none⟩ (.int .i64 (-1))) A { s with nodes := N1, qs := Q1 } (.slice (some ⟨g, 0, none⟩) s.nodes.length c) vf := by rw [hN1, hQ1e]; exact r1
  have hq1b : q1.blk = q.blk := by rw [hq1]
  have hq1l : q1.last = q.last := by rw [hq1]
  have hq1v : q1.live = q.live := by rw [hq1]
  have hq1d : q1.dead = q.dead := by rw [hq1]
  have hQset : ∀ x, Q1.set j x = s.qs.set j x := fun x => by rw [hQ1e]; try simp
  obtain ⟨q2, hq2⟩ : ∃ q2 : Qu, q2 = { q1 with last := (-1) } := ⟨_, rfl⟩
  have hout : outN s.nodes i d = N1.set i { d with inq := none } := by
    unfold outN; rw [← hN1b, hb, setA_no]
  have hoq : outQ q d = { q2 with live := if d.dead = true then q.live else q.live - 1, dead := if d.dead = true then q.dead - 1 else q.dead } := by
    unfold outQ; rw [← hq1f, hb, if_pos rfl, ha, hq2, hq1]
  have Ha := Lib.hid ha
  have Hb := Lib.hid hb
  have Hd1 := Lib.hid hd1
  have Hout := Lib.hid hout
  have Hoq := Lib.hid hoq
  have Hqq1 := Lib.hid hqq1
  have HN1 := Lib.hid hN1b
  have Hq1b := Lib.hid hq1b
  have HQset := Lib.hid hQset
  have Hq1v := Lib.hid hq1v
  have Hq1d := Lib.hid hq1d
  have Hq2 := Lib.hid hq2
  clear ha hb hd1 hout hoq hqq1 hN1b hN1 hq1b hq1f hq1l hq1v hq1d hq1 hQset hQ1e
  clear hq2
  obtain ⟨p1, p2, p3, p4, p5, p6, r1', r2, r3, r4, r5, r6⟩ := m7
  have Hl1 := Lib.hid hl1'
  clear hl1'
  have hn3 := hn.c3
  have hn4 := hn.c4
  clear hn
  go_enter Try.func121, Try.ntmps121
  have rn := r1.n
  clear rn
  have r2' := r1.setQ hnd1 Hqq1.out 2 (u := .int .i64 (-1)) (q' := q2) (by rw [Hq2.out]) (by rw [Hq2.out]; rfl)
  rw [HQset.out, Hq1b.out] at r2'
  have o2 := o1.setCell (p := ⟨q.blk, 2, none⟩) (.inl (.inl rfl)) (.int .i64 (-1))
  have hq2b : q2.blk = q.blk := by rw [Hq2.out]; exact Hq1b.out
  have hqq2 : (s.qs.set j q2)[j]? = some q2 := List.getElem?_set_self (List.getElem?_eq_some_iff.1 h.hq).1
  have hnd2 : ((s.qs.set j q2).map Qu.blk).Nodup := by rw [blk_map_set h.hq hq2b]; exact h.nodup
  have Hqq2 := Lib.hid hqq2
  have Hq2b := Lib.hid hq2b
  clear hqq2 hq2b
  cases hdd : d.dead with
  | true =>
    rw [hdd] at hn3
    have Hdd := Lib.hid hdd
    clear hdd
    go_wp2
    go_end0
    have e1 := r2'.setQ hnd2 Hqq2.out 4 (u := .int .i64 (q.dead - 1)) (q' := outQ q d) (by rw [Hoq.out]) (by rw [Hoq.out, Hdd.out]; simp [Qu.cells, Hq2.out, Hq1v.out, Hq1d.out])
    rw [List.set_set, Hq2b.out] at e1
    have r3 := e1.setN hv1 Hd1.out (k := 5) (u := .pointer none) (by omega) (set_inq hvd none)
    have o3 := (o2.setCell (p := ⟨q.blk, 4, none⟩) (.inl (.inl rfl)) (.int .i64 (q.dead - 1))).setCell (p := ⟨g, i * 8 + 5, none⟩) (.inl (.inr rfl)) (.pointer none)
    rw [Hout.out]
    exact ⟨rfl, r3, o3⟩
  | false =>
    rw [hdd] at hn3
    have Hdd := Lib.hid hdd
    clear hdd
    go_wp2
    go_end0
    have e1 := r2'.setQ hnd2 Hqq2.out 3 (u := .int .i64 (q.live - 1)) (q' := outQ q d) (by rw [Hoq.out]) (by rw [Hoq.out, Hdd.out]; simp [Qu.cells, Hq2.out, Hq1v.out, Hq1d.out])
    rw [List.set_set, Hq2b.out] at e1
    have r3 := e1.setN hv1 Hd1.out (k := 5) (u := .pointer none) (by omega) (set_inq hvd none)
    have o3 := (o2.setCell (p := ⟨q.blk, 3, none⟩) (.inl (.inl rfl)) (.int .i64 (q.live - 1))).setCell (p := ⟨g, i * 8 + 5, none⟩) (.inl (.inr rfl)) (.pointer none)
    rw [Hout.out]
    exact ⟨rfl, r3, o3⟩

set_option maxHeartbeats 1600000 in
set_option maxRecDepth 100000 in
theorem out_SN (A g c i j a : Nat) (s : Ar) (vf : Value) (q : Qu) (d da : Nd) (w : World) (h : QAt w A g c i j s vf q d) (ha : d.ahead = (a : Int)) (hb : d.back = -1) (hda : s.nodes[a]? = some da) (hai : a ≠ i) :
    Calls Try.prog 121 #[.pointer (some ⟨q.blk, 0, none⟩), .int .i64 i] w fun e w' => e = .returned (.tuple #[]) ∧
      ArRep w' A { s with nodes := outN s.nodes i d, qs := s.qs.set j (outQ q d) } (.slice (some ⟨g, 0, none⟩) s.nodes.length c) vf ∧ Only (fun x => x = q.blk ∨ x = g) w w' := by
  have hi : i < s.nodes.length := (List.getElem?_eq_some_iff.1 h.hd).1
  have hvd := h.wf.cells d (List.mem_of_getElem? h.hd)
  have hlen := h.wf.len
  have hroom := h.wf.room
  obtain ⟨hl1, hl2, hl3, hl4⟩ := h.lo
  obtain ⟨y, y', hn⟩ := node_of h.rep.n h.wf.cells h.hd
  have hn5 := hn.c5
  have hn6 := hn.c6
  rw [ha] at hn5
  rw [hb] at hn6
  obtain ⟨hA1, hQ0, hQ1, hQ2, hQ3, hQ4, hqf, hgf, hAlt, hqlt, hglt⟩ := h.rep.base h.hq
  obtain ⟨hAq, hqA, hgq, hqg, hgA, hAg⟩ := h.rep.apartQ h.hq
  have hal : a < s.nodes.length := (List.getElem?_eq_some_iff.1 hda).1
  have hva := h.wf.cells da (List.mem_of_getElem? hda)
  obtain ⟨ya, ya', hna⟩ := node_of h.rep.n h.wf.cells hda
  have hna6 := hna.c6
  have ht1 : ((a : Int) == -1) = false := beq_eq_false_iff_ne.2 (by omega)
  obtain ⟨N1, hN1⟩ : ∃ N1, N1 = s.nodes.set a { da with back := (-1) } := ⟨_, rfl⟩
  have hN1b : N1 = setB s.nodes d.ahead d.back := by rw [ha, hb, setB_at _ hda, hN1]
  have hd1 : N1[i]? = some d := by rw [hN1, List.getElem?_set_ne hai]; exact h.hd
  have hv1 : ∀ x ∈ N1, x.v.length = 2 := by rw [hN1]; exact v_set (i := a) h.wf.cells (d := { da with back := (-1) }) hva
  have hl1' : N1.length = s.nodes.length := by rw [hN1]; simp
  obtain ⟨q1, hq1⟩ : ∃ q1, q1 = q := ⟨_, rfl⟩
  have hq1f : q1.first = if d.ahead = -1 then d.back else q.first := by rw [hq1, ha, if_neg (by omega)]
  obtain ⟨Q1, hQ1e⟩ : ∃ Q1, Q1 = s.qs := ⟨_, rfl⟩
  have hqq1 : Q1[j]? = some q1 := by rw [hQ1e, hq1]; exact h.hq
  have hnd1 : (Q1.map Qu.blk).Nodup := by rw [hQ1e]; exact h.nodup
  have r1 := (h.rep.setN h.wf.cells hda (k := 7) (u := .int .i64 (-1)) (by omega) (set_back hva _)).drewN 1
  have o1 := ((Only.refl (fun x => x = q.blk ∨ x = g) w).setCell (p := ⟨g, a * 8 + 7, none⟩) (.inl (.inr rfl)) (.int .i64 (-1))).drewN 1
  replace r1 : ArRep (w.setCell ⟨g, a * 8 + 7, none⟩ (.int .i64 (-1))).drew A { s with nodes := N1, qs := Q1 } (.slice (some ⟨g, 0, none⟩) s.nodes.length c) vf := by rw [hN1, hQ1e]; exact r1
  change Only _ w (w.setCell ⟨g, a * 8 + 7, none⟩ (.int .i64 (-1))).drew at o1
  have hq1b : q1.blk = q.blk := by rw [hq1]
  have hq1l : q1.last = q.last := by rw [hq1]
  have hq1v : q1.live = q.live := by rw [hq1]
  have hq1d : q1.dead = q.dead := by rw [hq1]
  have hQset : ∀ x, Q1.set j x = s.qs.set j x := fun x => by rw [hQ1e]; try simp
  obtain ⟨q2, hq2⟩ : ∃ q2 : Qu, q2 = { q1 with last := (a : Int) } := ⟨_, rfl⟩
  have hout : outN s.nodes i d = N1.set i { d with inq := none } := by
    unfold outN; rw [← hN1b, hb, setA_no]
  have hoq : outQ q d = { q2 with live := if d.dead = true then q.live else q.live - 1, dead := if d.dead = true then q.dead - 1 else q.dead } := by
    unfold outQ; rw [← hq1f, hb, if_pos rfl, ha, hq2, hq1]
  have Ha := Lib.hid ha
  have Hb := Lib.hid hb
  have Hd1 := Lib.hid hd1
  have Hout := Lib.hid hout
  have Hoq := Lib.hid hoq
  have Hqq1 := Lib.hid hqq1
  have HN1 := Lib.hid hN1b
  have Hq1b := Lib.hid hq1b
  have HQset := Lib.hid hQset
  have Hq1v := Lib.hid hq1v
  have Hq1d := Lib.hid hq1d
  have Hq2 := Lib.hid hq2
  clear ha hb hd1 hout hoq hqq1 hN1b hN1 hq1b hq1f hq1l hq1v hq1d hq1 hQset hQ1e
  clear hq2
  clear hda hna
  obtain ⟨p1, p2, p3, p4, p5, p6, r1', r2, r3, r4, r5, r6⟩ := m7
  have hia := hai.symm
  have Hl1 := Lib.hid hl1'
  clear hl1'
  have hn3 := hn.c3
  have hn4 := hn.c4
  clear hn
  go_enter Try.func121, Try.ntmps121
  have rn := r1.n
  clear rn
  have r2' := r1.setQ hnd1 Hqq1.out 2 (u := .int .i64 (a : Int)) (q' := q2) (by rw [Hq2.out]) (by rw [Hq2.out]; rfl)
  rw [HQset.out, Hq1b.out] at r2'
  have o2 := o1.setCell (p := ⟨q.blk, 2, none⟩) (.inl (.inl rfl)) (.int .i64 (a : Int))
  have hq2b : q2.blk = q.blk := by rw [Hq2.out]; exact Hq1b.out
  have hqq2 : (s.qs.set j q2)[j]? = some q2 := List.getElem?_set_self (List.getElem?_eq_some_iff.1 h.hq).1
  have hnd2 : ((s.qs.set j q2).map Qu.blk).Nodup := by rw [blk_map_set h.hq hq2b]; exact h.nodup
  have Hqq2 := Lib.hid hqq2
  have Hq2b := Lib.hid hq2b
  clear hqq2 hq2b
  cases hdd : d.dead with
  | true =>
    rw [hdd] at hn3
    have Hdd := Lib.hid hdd
    clear hdd
    go_wp2
    go_still_tail 17, (by kernel_rfl)
    change wpList _ _ _ _ _ w.drew
    go_wp2
    go_end0
    have e1 := r2'.setQ hnd2 Hqq2.out 4 (u := .int .i64 (q.dead - 1)) (q' := outQ q d) (by rw [Hoq.out]) (by rw [Hoq.out, Hdd.out]; simp [Qu.cells, Hq2.out, Hq1v.out, Hq1d.out])
    rw [List.set_set, Hq2b.out] at e1
    have r3 := e1.setN hv1 Hd1.out (k := 5) (u := .pointer none) (by omega) (set_inq hvd none)
    have o3 := (o2.setCell (p := ⟨q.blk, 4, none⟩) (.inl (.inl rfl)) (.int .i64 (q.dead - 1))).setCell (p := ⟨g, i * 8 + 5, none⟩) (.inl (.inr rfl)) (.pointer none)
    rw [Hout.out]
    exact ⟨rfl, r3, o3⟩
  | false =>
    rw [hdd] at hn3
    have Hdd := Lib.hid hdd
    clear hdd
    go_wp2
    go_still_tail 17, (by kernel_rfl)
    change wpList _ _ _ _ _ w.drew
    go_wp2
    go_end0
    have e1 := r2'.setQ hnd2 Hqq2.out 3 (u := .int .i64 (q.live - 1)) (q' := outQ q d) (by rw [Hoq.out]) (by rw [Hoq.out, Hdd.out]; simp [Qu.cells, Hq2.out, Hq1v.out, Hq1d.out])
    rw [List.set_set, Hq2b.out] at e1
    have r3 := e1.setN hv1 Hd1.out (k := 5) (u := .pointer none) (by omega) (set_inq hvd none)
    have o3 := (o2.setCell (p := ⟨q.blk, 3, none⟩) (.inl (.inl rfl)) (.int .i64 (q.live - 1))).setCell (p := ⟨g, i * 8 + 5, none⟩) (.inl (.inr rfl)) (.pointer none)
    rw [Hout.out]
    exact ⟨rfl, r3, o3⟩

set_option maxHeartbeats 1600000 in
set_option maxRecDepth 100000 in
theorem out_NS (A g c i j b : Nat) (s : Ar) (vf : Value) (q : Qu) (d db : Nd) (w : World) (h : QAt w A g c i j s vf q d) (ha : d.ahead = -1) (hb : d.back = (b : Int)) (hdb : s.nodes[b]? = some db) (hbi : b ≠ i) :
    Calls Try.prog 121 #[.pointer (some ⟨q.blk, 0, none⟩), .int .i64 i] w fun e w' => e = .returned (.tuple #[]) ∧
      ArRep w' A { s with nodes := outN s.nodes i d, qs := s.qs.set j (outQ q d) } (.slice (some ⟨g, 0, none⟩) s.nodes.length c) vf ∧ Only (fun x => x = q.blk ∨ x = g) w w' := by
  have hi : i < s.nodes.length := (List.getElem?_eq_some_iff.1 h.hd).1
  have hvd := h.wf.cells d (List.mem_of_getElem? h.hd)
  have hlen := h.wf.len
  have hroom := h.wf.room
  obtain ⟨hl1, hl2, hl3, hl4⟩ := h.lo
  obtain ⟨y, y', hn⟩ := node_of h.rep.n h.wf.cells h.hd
  have hn5 := hn.c5
  have hn6 := hn.c6
  rw [ha] at hn5
  rw [hb] at hn6
  obtain ⟨hA1, hQ0, hQ1, hQ2, hQ3, hQ4, hqf, hgf, hAlt, hqlt, hglt⟩ := h.rep.base h.hq
  obtain ⟨hAq, hqA, hgq, hqg, hgA, hAg⟩ := h.rep.apartQ h.hq
  obtain ⟨N1, hN1⟩ : ∃ N1, N1 = s.nodes := ⟨_, rfl⟩
  have hN1b : N1 = setB s.nodes d.ahead d.back := by rw [ha, setB_no, hN1]
  have hd1 : N1[i]? = some d := by rw [hN1]; exact h.hd
  have hv1 : ∀ x ∈ N1, x.v.length = 2 := by rw [hN1]; exact h.wf.cells
  have hl1' : N1.length = s.nodes.length := by rw [hN1]
  obtain ⟨q1, hq1⟩ : ∃ q1 : Qu, q1 = { q with first := (b : Int) } := ⟨_, rfl⟩
  have hq1f : q1.first = if d.ahead = -1 then d.back else q.first := by rw [hq1, ha, hb, if_pos rfl]
  obtain ⟨Q1, hQ1e⟩ : ∃ Q1, Q1 = s.qs.set j q1 := ⟨_, rfl⟩
  have hqq1 : Q1[j]? = some q1 := by rw [hQ1e]; exact List.getElem?_set_self (List.getElem?_eq_some_iff.1 h.hq).1
  have hnd1 : (Q1.map Qu.blk).Nodup := by rw [hQ1e, blk_map_set h.hq (by rw [hq1])]; exact h.nodup
  have r1 := h.rep.setQ h.nodup h.hq 1 (u := .int .i64 (b : Int)) (q' := q1) (by rw [hq1]) (by rw [hq1]; rfl)
  have o1 := (Only.refl (fun x => x = q.blk ∨ x = g) w).setCell (p := ⟨q.blk, 1, none⟩) (.inl (.inl rfl)) (.int .i64 (b : Int))
  replace r1 : ArRep (w.setCell ⟨q.blk, 1, none⟩ (.int .i64 (b : Int))) A { s with nodes := N1, qs := Q1 } (.slice (some ⟨g, 0, none⟩) s.nodes.length c) vf := by rw [hN1, hQ1e]; exact r1
  have hb1 : N1[b]? = some db := by rw [hN1]; exact hdb
  have hq1b : q1.blk = q.blk := by rw [hq1]
  have hq1l : q1.last = q.last := by rw [hq1]
  have hq1v : q1.live = q.live := by rw [hq1]
  have hq1d : q1.dead = q.dead := by rw [hq1]
  have hQset : ∀ x, Q1.set j x = s.qs.set j x := fun x => by rw [hQ1e]; try simp
  have hbl : b < s.nodes.length := (List.getElem?_eq_some_iff.1 hdb).1
  have hvb := h.wf.cells db (List.mem_of_getElem? hdb)
  have ht2 : ((b : Int) == -1) = false := beq_eq_false_iff_ne.2 (by omega)
  have hd2 : (N1.set b { db with ahead := (-1) })[i]? = some d := by rw [List.getElem?_set_ne hbi]; exact hd1
  have hv2 := v_set (i := b) hv1 (d := { db with ahead := (-1) }) hvb
  have hout : outN s.nodes i d = (N1.set b { db with ahead := (-1) }).set i { d with inq := none } := by
    unfold outN; rw [← hN1b, ha, hb, setA_at _ hb1]
  have hoq : outQ q d = { q1 with live := if d.dead = true then q.live else q.live - 1, dead := if d.dead = true then q.dead - 1 else q.dead } := by
    unfold outQ; rw [← hq1f, hb, if_neg (by omega), hq1]
  have Ha := Lib.hid ha
  have Hb := Lib.hid hb
  have Hd1 := Lib.hid hd1
  have Hout := Lib.hid hout
  have Hoq := Lib.hid hoq
  have Hqq1 := Lib.hid hqq1
  have Hb1 := Lib.hid hb1
  have Hd2 := Lib.hid hd2
  have HN1 := Lib.hid hN1b
  have Hq1b := Lib.hid hq1b
  have HQset := Lib.hid hQset
  have Hq1v := Lib.hid hq1v
  have Hq1d := Lib.hid hq1d
  clear ha hb hd1 hout hoq hqq1 hN1b hN1 hq1b hq1f hq1l hq1v hq1d hq1 hQset hQ1e
  clear hb1 hd2 hdb
  obtain ⟨p1, p2, p3, p4, p5, p6, r1', r2, r3, r4, r5, r6⟩ := m7
  have hib := hbi.symm
  have Hl1 := Lib.hid hl1'
  clear hl1'
  clear hn
  go_enter Try.func121, Try.ntmps121
  go_wp2
  generalize w.setCell ⟨q.blk, 1, none⟩ (.int .i64 (b : Int)) = w1 at *
  clear hn5 hn6 hA1 hQ0 hQ1 hQ2 hQ3 hQ4 hqf hgf hAlt hqlt hglt
  obtain ⟨hA1, hQ0, hQ1, hQ2, hQ3, hQ4, hqf, hgf, hAlt, hqlt, hglt⟩ := r1.base Hqq1.out
  rw [Hq1b.out] at hQ0 hQ1 hQ2 hQ3 hQ4 hqf hqlt
  rw [Hq1v.out] at hQ3
  rw [Hq1d.out] at hQ4
  have rn := r1.n
  rw [← Hl1.out] at rn
  obtain ⟨z, z', hn⟩ := node_of rn hv1 Hd1.out
  have hn3 := hn.c3
  have hn4 := hn.c4
  have hn5 := hn.c5
  have hn6 := hn.c6
  rw [Ha.out] at hn5
  rw [Hb.out] at hn6
  clear hn
  obtain ⟨zb, zb', hnb⟩ := node_of rn hv1 Hb1.out
  have hnb5 := hnb.c5
  clear hnb rn
  have r2' := r1.setN hv1 Hb1.out (k := 6) (u := .int .i64 (-1)) (by omega) (set_ahead hvb _)
  have o2 := o1.setCell (p := ⟨g, b * 8 + 6, none⟩) (.inl (.inr rfl)) (.int .i64 (-1))
  cases hdd : d.dead with
  | true =>
    rw [hdd] at hn3
    have Hdd := Lib.hid hdd
    clear hdd
    go_still_tail 17, (by kernel_rfl)
    change wpList _ _ _ _ _ w1.drew
    go_wp2
    go_end0
    have e1 := r2'.setQ hnd1 Hqq1.out 4 (u := .int .i64 (q.dead - 1)) (q' := outQ q d) (by rw [Hoq.out]) (by rw [Hoq.out, Hdd.out]; simp [Qu.cells, Hq1v.out, Hq1d.out])
    rw [HQset.out, Hq1b.out] at e1
    have r3 := e1.setN hv2 Hd2.out (k := 5) (u := .pointer none) (by omega) (set_inq hvd none)
    have o3 := (o2.setCell (p := ⟨q.blk, 4, none⟩) (.inl (.inl rfl)) (.int .i64 (q.dead - 1))).setCell (p := ⟨g, i * 8 + 5, none⟩) (.inl (.inr rfl)) (.pointer none)
    rw [Hout.out]
    exact ⟨rfl, r3.drewN 1, o3.drewN 1⟩
  | false =>
    rw [hdd] at hn3
    have Hdd := Lib.hid hdd
    clear hdd
    go_still_tail 17, (by kernel_rfl)
    change wpList _ _ _ _ _ w1.drew
    go_wp2
    go_end0
    have e1 := r2'.setQ hnd1 Hqq1.out 3 (u := .int .i64 (q.live - 1)) (q' := outQ q d) (by rw [Hoq.out]) (by rw [Hoq.out, Hdd.out]; simp [Qu.cells, Hq1v.out, Hq1d.out])
    rw [HQset.out, Hq1b.out] at e1
    have r3 := e1.setN hv2 Hd2.out (k := 5) (u := .pointer none) (by omega) (set_inq hvd none)
    have o3 := (o2.setCell (p := ⟨q.blk, 3, none⟩) (.inl (.inl rfl)) (.int .i64 (q.live - 1))).setCell (p := ⟨g, i * 8 + 5, none⟩) (.inl (.inr rfl)) (.pointer none)
    rw [Hout.out]
    exact ⟨rfl, r3.drewN 1, o3.drewN 1⟩

end ArT
end Go.Proofs.Ytnhedhmffgaohaa
