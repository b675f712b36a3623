/- The walks of a queue's own functions: each call's answer and the state it leaves, cell by cell. -/
import Derived.Test.YtnhedhmffgaohaaArT2
import Derived.Test.YtnhedhmffgaohaaQuM
import Derived.LaidEqlPtr
import Derived.Lib.Builder
namespace Go.Proofs.Ytnhedhmffgaohaa
open Go.RowKit
namespace ArT

/-! ### A store into a place, or into a queue's own block, is a step of the state -/
/-- The queue number j has another own block's contents. -/
def Qu.cells (A : Nat) (q : Qu) : Array Value := #[.pointer (some ⟨A, 0, none⟩), .int .i64 q.first, .int .i64 q.last, .int .i64 q.live, .int .i64 q.dead]

theorem ArRep.setN {w : World} {A g c n i k : Nat} {s : Ar} {vf u : Value} {d d' : Nd} (h : ArRep w A s (.slice (some ⟨g, 0, none⟩) n c) vf) (hv : ∀ d ∈ s.nodes, d.v.length = 2) (hd : s.nodes[i]? = some d) (hk : k < 8) (he : d'.cells = d.cells.set k u) :
    ArRep (w.setCell ⟨g, i * 8 + k, none⟩ u) A { s with nodes := s.nodes.set i d' } (.slice (some ⟨g, 0, none⟩) n c) vf := by
  have hgA : g ≠ A := ob_ne' (own_blk_ne h.n h.a (by decide))
  have hn : n = s.nodes.length := by
    obtain ⟨_, _, e, _⟩ := own_slice h.n
    injection e with _ e _
  subst hn
  refine ⟨blk_far h.a hgA.symm _, ?_, own_far h.f (p := ⟨g, i * 8 + k, none⟩) (own_own_ne h.n h.f (by decide) rfl) _, fun q hq => ?_⟩
  · have h1 := own_set h.n (i * 8 + k) u
    rw [lay_set (enc := Nd.cells) (m := 8) (fun a ha => cells_len (hv a ha)) hd hk he] at h1
    simpa using h1
  · have h1 := h.q q hq
    exact blk_far h1 (fun e => own_blk_ne h.n h1 (by decide) (by rw [e]; rfl)) _

theorem ArRep.setQ {w : World} {A j : Nat} {s : Ar} {vn vf u : Value} {q q' : Qu} (h : ArRep w A s vn vf) (hn : (s.qs.map Qu.blk).Nodup) (hq : s.qs[j]? = some q) (k : Nat) (hb : q'.blk = q.blk) (he : Qu.cells A q' = (Qu.cells A q).setIfInBounds k u) :
    ArRep (w.setCell ⟨q.blk, k, none⟩ u) A { s with qs := s.qs.set j q' } vn vf := by
  have hqm := List.mem_of_getElem? hq
  have hqb := h.q q hqm
  refine ⟨blk_far h.a (blk_ne h.a hqb (by decide)) _, own_far h.n (own_blk_ne h.n hqb (by decide)) _, own_far h.f (own_blk_ne h.f hqb (by decide)) _, fun r hr => ?_⟩
  obtain ⟨i, hi, hir⟩ := List.getElem_of_mem hr
  simp only [List.length_set] at hi
  by_cases e : j = i
  · subst e
    rw [List.getElem_set_self] at hir
    subst hir
    have h1 := blk_set hqb k u
    rw [hb]
    have h2 : (#[.pointer (some ⟨A, 0, none⟩), .int .i64 q.first, .int .i64 q.last, .int .i64 q.live, .int .i64 q.dead] : Array Value).setIfInBounds k u = Qu.cells A q' := he.symm
    rw [h2] at h1
    exact h1
  · rw [List.getElem_set_ne e] at hir
    subst hir
    have hr' := h.q _ (List.getElem_mem hi)
    refine blk_far hr' ?_ _
    intro e2
    have hj : j < s.qs.length := (List.getElem?_eq_some_iff.1 hq).1
    have h3 : (s.qs.map Qu.blk)[i]? = (s.qs.map Qu.blk)[j]? := by
      rw [List.getElem?_map, List.getElem?_map, hq, List.getElem?_eq_getElem hi]
      simp [e2]
    have := (List.getElem?_inj (by simpa using hi) hn).1 h3
    exact e this.symm

theorem ArRep.alloc {w : World} {A : Nat} {s : Ar} {vn vf : Value} (h : ArRep w A s vn vf) (o : Obj) : ArRep (w.alloc o) A s vn vf := h.only (S := Nil) ((Only.refl _ _).alloc o) (fun _ _ h => h)

/-! ### Pointers to queues held against each other -/
theorem tq_info : (Try.prog.info? tQ).map (·.size) = some 5 := by kernel_rfl
theorem neq_q_self (w : World) (b : Nat) : (binOp .neq 124 (.pointer (some ⟨b, 0, none⟩)) (.pointer (some ⟨b, 0, none⟩))).run Try.prog w = .ok (.bool false) w := by
  obtain ⟨i, hi, _⟩ := Option.map_eq_some_iff.1 tq_info
  exact Lib.run_neq_ptr_same w ⟨b, 0, none⟩ Try.underlying124 hi
theorem neq_q_other (w : World) {b b' : Nat} {cs cs' : Array Value} (hne : b ≠ b') (h : w.heap[b]? = some (.cells cs tQ (0, 0))) (h' : w.heap[b']? = some (.cells cs' tQ (0, 0))) :
    (binOp .neq 124 (.pointer (some ⟨b, 0, none⟩)) (.pointer (some ⟨b', 0, none⟩))).run Try.prog w = .ok (.bool true) w := by
  obtain ⟨i, hi, hs⟩ := Option.map_eq_some_iff.1 tq_info
  exact run_neq_ptr_other w Try.underlying124 hi (by omega) (by intro e; injection e with e; exact hne e) h h'

/-! ### Offsets of unlike fields never meet -/
theorem m7 : (∀ x y : Nat, ¬ (x * 8 + 2 = y * 8)) ∧ (∀ x y : Nat, ¬ (x * 8 + 3 = y * 8)) ∧ (∀ x y : Nat, ¬ (x * 8 + 4 = y * 8)) ∧ (∀ x y : Nat, ¬ (x * 8 + 5 = y * 8)) ∧ (∀ x y : Nat, ¬ (x * 8 + 6 = y * 8)) ∧ (∀ x y : Nat, ¬ (x * 8 + 7 = y * 8)) ∧
    (∀ x y : Nat, ¬ (y * 8 = x * 8 + 2)) ∧ (∀ x y : Nat, ¬ (y * 8 = x * 8 + 3)) ∧ (∀ x y : Nat, ¬ (y * 8 = x * 8 + 4)) ∧ (∀ x y : Nat, ¬ (y * 8 = x * 8 + 5)) ∧ (∀ x y : Nat, ¬ (y * 8 = x * 8 + 6)) ∧ (∀ x y : Nat, ¬ (y * 8 = x * 8 + 7)) := by
  refine ⟨?_, ?_, ?_, ?_, ?_, ?_, ?_, ?_, ?_, ?_, ?_, ?_⟩ <;> (intro x y; omega)

/-! ### What a walk reads of the arena's and a queue's own blocks -/
theorem ArRep.base {w : World} {A g n c j : Nat} {s : Ar} {vf : Value} {q : Qu} (h : ArRep w A s (.slice (some ⟨g, 0, none⟩) n c) vf) (hq : s.qs[j]? = some q) :
    w.cell? ⟨A, 1, none⟩ = some (.slice (some ⟨g, 0, none⟩) n c) ∧ w.cell? ⟨q.blk, 0, none⟩ = some (.pointer (some ⟨A, 0, none⟩)) ∧ w.cell? ⟨q.blk, 1, none⟩ = some (.int .i64 q.first) ∧ w.cell? ⟨q.blk, 2, none⟩ = some (.int .i64 q.last) ∧
      w.cell? ⟨q.blk, 3, none⟩ = some (.int .i64 q.live) ∧ w.cell? ⟨q.blk, 4, none⟩ = some (.int .i64 q.dead) ∧ (∀ o, w.frozen? ⟨q.blk, o, none⟩ = false) ∧ (∀ o, w.frozen? ⟨g, o, none⟩ = false) ∧ A < w.heap.size ∧ q.blk < w.heap.size ∧ g < w.heap.size := by
  have hqb := h.q q (List.mem_of_getElem? hq)
  have hn : n = s.nodes.length := by
    obtain ⟨_, _, e, _⟩ := own_slice h.n
    injection e with _ e _
  subst hn
  exact ⟨blk_cell h.a 1, blk_cell hqb 0, blk_cell hqb 1, blk_cell hqb 2, blk_cell hqb 3, blk_cell hqb 4, fun o => blk_frozen hqb o, fun o => h.n.frozenAt o, blk_lt h.a, blk_lt hqb, own_lt h.n rfl⟩
theorem ArRep.apartQ {w : World} {A g n c j : Nat} {s : Ar} {vf : Value} {q : Qu} (h : ArRep w A s (.slice (some ⟨g, 0, none⟩) n c) vf) (hq : s.qs[j]? = some q) : A ≠ q.blk ∧ q.blk ≠ A ∧ g ≠ q.blk ∧ q.blk ≠ g ∧ g ≠ A ∧ A ≠ g := by
  have hqb := h.q q (List.mem_of_getElem? hq)
  have h1 : A ≠ q.blk := blk_ne h.a hqb (by decide)
  have h2 : g ≠ q.blk := ob_ne' (own_blk_ne h.n hqb (by decide))
  have h3 : g ≠ A := ob_ne' (own_blk_ne h.n h.a (by decide))
  exact ⟨h1, h1.symm, h2, h2.symm, h3, h3.symm⟩
/-- One cell of a place, as a list's place. -/
theorem cells_set {d d' : Nd} (hv : d.v.length = 2) (k : Nat) (u : Value) (h : ∀ z z', d.v = [z, z'] → d'.cells = ([z, z', .int .u32 (d.life : Int), .bool d.taken, .bool d.dead, qptr d.inq, .int .i64 d.ahead, .int .i64 d.back]).set k u) : d'.cells = d.cells.set k u := by
  obtain ⟨z, z', hz⟩ := two_of hv
  rw [h z z' hz]
  simp [Nd.cells, hz]
theorem set_back {d : Nd} (hv : d.v.length = 2) (b : Int) : Nd.cells { d with back := b } = d.cells.set 7 (.int .i64 b) := cells_set hv 7 _ fun z z' hz => by simp [Nd.cells, hz]
theorem set_ahead {d : Nd} (hv : d.v.length = 2) (b : Int) : Nd.cells { d with ahead := b } = d.cells.set 6 (.int .i64 b) := cells_set hv 6 _ fun z z' hz => by simp [Nd.cells, hz]
theorem set_inq {d : Nd} (hv : d.v.length = 2) (b : Option Nat) : Nd.cells { d with inq := b } = d.cells.set 5 (qptr b) := cells_set hv 5 _ fun z z' hz => by simp [Nd.cells, hz]
theorem set_dead {d : Nd} (hv : d.v.length = 2) (b : Bool) : Nd.cells { d with dead := b } = d.cells.set 4 (.bool b) := cells_set hv 4 _ fun z z' hz => by simp [Nd.cells, hz]
theorem v_set {l : List Nd} {i : Nat} {d : Nd} (h : ∀ x ∈ l, x.v.length = 2) (hd : d.v.length = 2) : ∀ x ∈ l.set i d, x.v.length = 2 := fun x hx => by
  rcases List.mem_or_eq_of_mem_set hx with h1 | h1
  · exact h x h1
  · subst h1; exact hd

/-! ### out -/
/-- What is known of the state around a place that stands in a queue. -/
structure QAt (w : World) (A g c i j : Nat) (s : Ar) (vf : Value) (q : Qu) (d : Nd) : Prop where
  rep : ArRep w A s (.slice (some ⟨g, 0, none⟩) s.nodes.length c) vf
  wf : s.wf 2
  nodup : (s.qs.map Qu.blk).Nodup
  hq : s.qs[j]? = some q
  hd : s.nodes[i]? = some d
  lo : 0 ≤ q.live ∧ q.live ≤ 65536 ∧ 0 ≤ q.dead ∧ q.dead ≤ 65536

set_option maxHeartbeats 1600000 in
set_option maxRecDepth 100000 in
theorem out_mid (A g c i j a b : Nat) (s : Ar) (vf : Value) (q : Qu) (d da db : Nd) (w : World) (h : QAt w A g c i j s vf q d) (ha : d.ahead = (a : Int)) (hb : d.back = (b : Int)) (hda : s.nodes[a]? = some da) (hdb : s.nodes[b]? = some db)
    (hai : a ≠ i) (hbi : b ≠ i) (hab : a ≠ b) :
    Calls Try.prog 121 #[.pointer (some ⟨q.blk, 0, none⟩), .int .i64 i] w fun e w' => e = .returned (.tuple #[]) ∧
      ArRep w' A { s with nodes := outN s.nodes i d, qs := s.qs.set j (outQ q d) } (.slice (some ⟨g, 0, none⟩) s.nodes.length c) vf ∧ Only (fun x => x = q.blk ∨ x = g) w w' := by
  have hi : i < s.nodes.length := (List.getElem?_eq_some_iff.1 h.hd).1
  have hal : a < s.nodes.length := (List.getElem?_eq_some_iff.1 hda).1
  have hbl : b < s.nodes.length := (List.getElem?_eq_some_iff.1 hdb).1
  have hva := h.wf.cells da (List.mem_of_getElem? hda)
  have hvb := h.wf.cells db (List.mem_of_getElem? hdb)
  have hvd := h.wf.cells d (List.mem_of_getElem? h.hd)
  have hlen := h.wf.len
  have hroom := h.wf.room
  obtain ⟨hl1, hl2, hl3, hl4⟩ := h.lo
  obtain ⟨y, y', hn⟩ := node_of h.rep.n h.wf.cells h.hd
  obtain ⟨ya, ya', hna⟩ := node_of h.rep.n h.wf.cells hda
  have hn5 := hn.c5
  have hn6 := hn.c6
  have hna6 := hna.c6
  rw [ha] at hn5
  rw [hb] at hn6
  obtain ⟨hA1, hQ0, hQ1, hQ2, hQ3, hQ4, hqf, hgf, hAlt, hqlt, hglt⟩ := h.rep.base h.hq
  obtain ⟨hAq, hqA, hgq, hqg, hgA, hAg⟩ := h.rep.apartQ h.hq
  have ht1 : ((a : Int) == -1) = false := beq_eq_false_iff_ne.2 (by omega)
  have ht2 : ((b : Int) == -1) = false := beq_eq_false_iff_ne.2 (by omega)
  have hd1 : (s.nodes.set a { da with back := (b : Int) })[i]? = some d := by rw [List.getElem?_set_ne hai]; exact h.hd
  have hb1 : (s.nodes.set a { da with back := (b : Int) })[b]? = some db := by rw [List.getElem?_set_ne hab]; exact hdb
  have hd2 : ((s.nodes.set a { da with back := (b : Int) }).set b { db with ahead := (a : Int) })[i]? = some d := by rw [List.getElem?_set_ne hbi]; exact hd1
  have hv1 := v_set (i := a) h.wf.cells (d := { da with back := (b : Int) }) hva
  have hv2 := v_set (i := b) hv1 (d := { db with ahead := (a : Int) }) hvb
  have hout : outN s.nodes i d = ((s.nodes.set a { da with back := (b : Int) }).set b { db with ahead := (a : Int) }).set i { d with inq := none } := by
    unfold outN; rw [ha, hb, setB_at _ hda, setA_at _ hb1]
  have hoq : outQ q d = { q with live := if d.dead = true then q.live else q.live - 1, dead := if d.dead = true then q.dead - 1 else q.dead } := by
    unfold outQ; rw [ha, hb, if_neg (by omega), if_neg (by omega)]
  have r1 := (h.rep.setN h.wf.cells hda (k := 7) (u := .int .i64 (b : Int)) (by omega) (set_back hva _)).drewN 1
  have o1 := ((Only.refl (fun x => x = q.blk ∨ x = g) w).setCell (p := ⟨g, a * 8 + 7, none⟩) (.inl (.inr rfl)) (.int .i64 (b : Int))).drewN 1
  change ArRep (w.setCell ⟨g, a * 8 + 7, none⟩ (.int .i64 (b : Int))).drew A _ _ _ at r1
  change Only _ w (w.setCell ⟨g, a * 8 + 7, none⟩ (.int .i64 (b : Int))).drew at o1
  have Ha := Lib.hid ha
  have Hb := Lib.hid hb
  have Hd1 := Lib.hid hd1
  have Hb1 := Lib.hid hb1
  have Hd2 := Lib.hid hd2
  have Hout := Lib.hid hout
  have Hoq := Lib.hid hoq
  clear ha hb hda hdb hn hna hd1 hb1 hd2 hout hoq
  obtain ⟨p1, p2, p3, p4, p5, p6, r1', r2, r3, r4, r5, r6⟩ := m7
  have hia := hai.symm
  have hib := hbi.symm
  have hba := hab.symm
  go_enter Try.func121, Try.ntmps121
  go_wp2
  go_still_tail 17, (by kernel_rfl)
  change wpList _ _ _ _ _ w.drew
  go_wp2
  generalize (w.setCell ⟨g, a * 8 + 7, none⟩ (.int .i64 (b : Int))).drew = w1 at *
  clear hn5 hn6 hna6 hA1 hQ0 hQ1 hQ2 hQ3 hQ4 hqf hgf hAlt hqlt hglt
  obtain ⟨hA1, hQ0, hQ1, hQ2, hQ3, hQ4, hqf, hgf, hAlt, hqlt, hglt⟩ := r1.base h.hq
  obtain ⟨z, z', hn⟩ := node_of (by simpa using r1.n) hv1 Hd1.out
  obtain ⟨zb, zb', hnb⟩ := node_of (by simpa using r1.n) hv1 Hb1.out
  have hn3 := hn.c3
  have hn4 := hn.c4
  have hn5 := hn.c5
  have hn6 := hn.c6
  have hnb5 := hnb.c5
  rw [Ha.out] at hn5
  rw [Hb.out] at hn6
  clear hn hnb
  have r2' := r1.setN hv1 Hb1.out (k := 6) (u := .int .i64 (a : Int)) (by omega) (set_ahead hvb _)
  have o2 := o1.setCell (p := ⟨g, b * 8 + 6, none⟩) (.inl (.inr rfl)) (.int .i64 (a : Int))
  cases hdd : d.dead with
  | true =>
    rw [hdd] at hn3
    have Hdd := Lib.hid hdd
    clear hdd
    go_still_tail 17, (by kernel_rfl)
    change wpList _ _ _ _ _ w1.drew
    go_wp2
    go_end0
    have r3 := (r2'.setQ h.nodup h.hq 4 (u := .int .i64 (q.dead - 1)) (q' := outQ q d) rfl (by rw [Hoq.out, Hdd.out]; rfl)).setN hv2 Hd2.out (k := 5) (u := .pointer none) (by omega) (set_inq hvd none)
    have o3 := (o2.setCell (p := ⟨q.blk, 4, none⟩) (.inl (.inl rfl)) (.int .i64 (q.dead - 1))).setCell (p := ⟨g, i * 8 + 5, none⟩) (.inl (.inr rfl)) (.pointer none)
    rw [Hout.out]
    exact ⟨rfl, r3.drewN 1, o3.drewN 1⟩
  | false =>
    rw [hdd] at hn3
    have Hdd := Lib.hid hdd
    clear hdd
    go_still_tail 17, (by kernel_rfl)
    change wpList _ _ _ _ _ w1.drew
    go_wp2
    go_end0
    have r3 := (r2'.setQ h.nodup h.hq 3 (u := .int .i64 (q.live - 1)) (q' := outQ q d) rfl (by rw [Hoq.out, Hdd.out]; rfl)).setN hv2 Hd2.out (k := 5) (u := .pointer none) (by omega) (set_inq hvd none)
    have o3 := (o2.setCell (p := ⟨q.blk, 3, none⟩) (.inl (.inl rfl)) (.int .i64 (q.live - 1))).setCell (p := ⟨g, i * 8 + 5, none⟩) (.inl (.inr rfl)) (.pointer none)
    rw [Hout.out]
    exact ⟨rfl, r3.drewN 1, o3.drewN 1⟩
end ArT
end Go.Proofs.Ytnhedhmffgaohaa
