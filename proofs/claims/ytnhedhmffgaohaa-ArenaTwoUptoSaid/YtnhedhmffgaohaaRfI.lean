/- The document's arena in memory; the walks of its New, Good, handle. -/
import Derived.Test.YtnhedhmffgaohaaProg
import Derived.Test.YtnhedhmffgaohaaAlM3
import Derived.Deep.RegionHeld3
import Derived.Deep.LoopGhost
namespace Go.Proofs.Ytnhedhmffgaohaa
open Go.RowKit
namespace Rfw
abbrev tR : Nat := 134
abbrev tP : Nat := 137
abbrev tS : Nat := 22
abbrev tI : Nat := 3
abbrev tH : Nat := 32
def ints (l : List Nat) : List Value := l.map fun (i : Nat) => Value.int .i64 (i : Int)

/-- What always holds of it. -/
structure _root_.Go.Proofs.Ytnhedhmffgaohaa.Rf.wf (r : Rf) : Prop where
  len : r.places.length ≤ 65536
  dl : r.dropped.length ≤ r.places.length
  di : ∀ i ∈ r.dropped, i < r.places.length
  ev : r.ever ≤ r.places.length
  qn : r.queues.length ≤ 4194304
  ql : ∀ l ∈ r.queues, l.length ≤ 65536 ∧ ∀ i ∈ l, i < r.places.length
  life : ∀ x ∈ r.places, x.life < 4294967296

structure RfRep (w : World) (D : Nat) (r : Rf) (vp vd vq : Value) (rows : List Value) : Prop where
  d : w.heap[D]? = some (.cells #[vp, vd, .int .i64 (r.ever : Int), vq] tR (0, 0))
  p : w.ownsRow 0 tP 5 vp r.places.length (r.places.flatMap Pl.cells)
  f : w.ownsRow 0 tI 1 vd r.dropped.length (ints r.dropped)
  q : w.ownsRow 0 tS 1 vq r.queues.length rows
  row : ∀ (j : Nat) (l : List Nat), r.queues[j]? = some l → ∃ v, rows[j]? = some v ∧ w.ownsRow 0 tI 1 v l.length (ints l)
  ap : ∀ (j k : Nat) (v v' : Value), rows[j]? = some v → rows[k]? = some v' → j ≠ k → ∀ b, v.ownBlock = some b → v'.ownBlock ≠ some b
  apd : ∀ v ∈ rows, ∀ b, v.ownBlock = some b → vd.ownBlock ≠ some b

/-- The blocks in which it lies. -/
def RfD (D : Nat) (vp vd vq : Value) (rows : List Value) (k : Nat) : Prop := k = D ∨ vp.ownBlock = some k ∨ vd.ownBlock = some k ∨ vq.ownBlock = some k ∨ ∃ v ∈ rows, v.ownBlock = some k

section
variable {w w' : World} {D : Nat} {r : Rf} {vp vd vq : Value} {rows : List Value}
theorem RfRep.rlen (h : RfRep w D r vp vd vq rows) : rows.length = r.queues.length := by
  have := h.q.1
  omega
theorem RfRep.rowAt (h : RfRep w D r vp vd vq rows) {v : Value} (hv : v ∈ rows) : ∃ (j : Nat) (l : List Nat), rows[j]? = some v ∧ r.queues[j]? = some l ∧ w.ownsRow 0 tI 1 v l.length (ints l) := by
  obtain ⟨j, hj, rfl⟩ := List.getElem_of_mem hv
  have hj' : j < r.queues.length := by rw [← h.rlen]; exact hj
  obtain ⟨v, h1, h2⟩ := h.row j _ (List.getElem?_eq_getElem hj')
  rw [List.getElem?_eq_getElem hj] at h1
  injection h1 with h1
  subst h1
  exact ⟨j, _, List.getElem?_eq_getElem hj, List.getElem?_eq_getElem hj', h2⟩
theorem RfRep.only {S : Nat → Prop} (h : RfRep w D r vp vd vq rows) (ho : Only S w w') (hs : ∀ k, RfD D vp vd vq rows k → ¬ S k) : RfRep w' D r vp vd vq rows :=
  ⟨ho.blk h.d (hs _ (.inl rfl)), own_only h.p ho fun k hk => hs k (.inr (.inl hk)), own_only h.f ho fun k hk => hs k (.inr (.inr (.inl hk))), own_only h.q ho fun k hk => hs k (.inr (.inr (.inr (.inl hk)))),
   fun j l hl => by obtain ⟨v, h1, h2⟩ := h.row j l hl; exact ⟨v, h1, own_only h2 ho fun k hk => hs k (.inr (.inr (.inr (.inr ⟨v, List.mem_of_getElem? h1, hk⟩))))⟩, h.ap, h.apd⟩
theorem RfRep.nil (h : RfRep w D r vp vd vq rows) (ho : Only Nil w w') : RfRep w' D r vp vd vq rows := h.only ho fun _ _ h => h
theorem RfRep.lt (h : RfRep w D r vp vd vq rows) {k : Nat} (hk : RfD D vp vd vq rows k) : k < w.heap.size := by
  rcases hk with rfl | hk | hk | hk | ⟨v, hv, hk⟩
  · exact blk_lt h.d
  · exact own_lt h.p hk
  · exact own_lt h.f hk
  · exact own_lt h.q hk
  · obtain ⟨_, _, _, _, h1⟩ := h.rowAt hv
    exact own_lt h1 hk
/-- What a walk reads of the arena's own block. -/
theorem RfRep.base (h : RfRep w D r vp vd vq rows) : w.cell? ⟨D, 0, none⟩ = some vp ∧ w.cell? ⟨D, 1, none⟩ = some vd ∧ w.cell? ⟨D, 2, none⟩ = some (.int .i64 (r.ever : Int)) ∧ w.cell? ⟨D, 3, none⟩ = some vq ∧ (∀ o, w.frozen? ⟨D, o, none⟩ = false) ∧ D < w.heap.size :=
  ⟨blk_cell h.d 0, blk_cell h.d 1, blk_cell h.d 2, blk_cell h.d 3, fun o => blk_frozen h.d o, blk_lt h.d⟩

/-- A handle's box is none of its blocks. -/
theorem RfRep.box_ne {b : Nat} {cs : Array Value} (h : RfRep w D r vp vd vq rows) (hb : w.heap[b]? = some (.cells cs tH (0, 0))) : ¬ RfD D vp vd vq rows b := by
  rintro (hk | hk | hk | hk | ⟨v, hv, hk⟩)
  · exact blk_ne h.d hb (by decide) hk.symm
  · exact own_blk_ne h.p hb (by decide) hk
  · exact own_blk_ne h.f hb (by decide) hk
  · exact own_blk_ne h.q hb (by decide) hk
  · obtain ⟨_, _, _, _, h1⟩ := h.rowAt hv
    exact own_blk_ne h1 hb (by decide) hk

structure PlAt (w : World) (g i : Nat) (x : Pl) : Prop where
  c0 : w.cell? ⟨g, i * 5, none⟩ = some (.int .u32 (x.life : Int))
  c1 : w.cell? ⟨g, i * 5 + 1, none⟩ = some (.bool x.taken)
  c2 : w.cell? ⟨g, i * 5 + 2, none⟩ = some (.int .i64 x.value)
  c3 : w.cell? ⟨g, i * 5 + 3, none⟩ = some (.int .i64 (x.inn : Int))
  c4 : w.cell? ⟨g, i * 5 + 4, none⟩ = some (.bool x.dead)
theorem pl_of {g c n i : Nat} {pl : List Pl} {x : Pl} (h : w.ownsRow 0 tP 5 (.slice (some ⟨g, 0, none⟩) n c) n (pl.flatMap Pl.cells)) (hx : pl[i]? = some x) : PlAt w g i x := by
  have hc : ∀ k, k < 5 → ∀ u, x.cells[k]? = some u → w.cell? ⟨g, i * 5 + k, none⟩ = some u := fun k hk u hu =>
    own_cell h (by rw [lay_get (fun a _ => a.len) hx hk]; exact hu)
  exact ⟨hc 0 (by omega) _ rfl, hc 1 (by omega) _ rfl, hc 2 (by omega) _ rfl, hc 3 (by omega) _ rfl, hc 4 (by omega) _ rfl⟩
/-- The places' row, with a place in it. -/
theorem RfRep.prow (h : RfRep w D r vp vd vq rows) {i : Nat} (hi : i < r.places.length) : ∃ g c, vp = .slice (some ⟨g, 0, none⟩) r.places.length c ∧ g < w.heap.size ∧ r.places.length ≤ c ∧ g ≠ D ∧ (∀ o, w.frozen? ⟨g, o, none⟩ = false) := by
  obtain ⟨g, c, rfl, hg, hc, _⟩ := own_row h.p (by omega)
  exact ⟨g, c, rfl, hg, hc, ob_ne' (own_blk_ne h.p h.d (by decide)), fun o => h.p.frozenAt o⟩
/-- One queue's row. -/
theorem RfRep.qrow (h : RfRep w D r vp vd vq rows) {j : Nat} {l : List Nat} (hl : r.queues[j]? = some l) : ∃ g c A cq, vq = .slice (some ⟨g, 0, none⟩) r.queues.length c ∧ g < w.heap.size ∧ r.queues.length ≤ c ∧ g ≠ D ∧ w.cell? ⟨g, j, none⟩ = some (.slice A l.length cq) ∧
    rows[j]? = some (.slice A l.length cq) ∧ l.length ≤ cq ∧ w.ownsRow 0 tI 1 (.slice A l.length cq) l.length (ints l) ∧ (∀ o, w.frozen? ⟨g, o, none⟩ = false) := by
  have hj := (List.getElem?_eq_some_iff.1 hl).1
  obtain ⟨g, c, rfl, hg, hc, _⟩ := own_row h.q (by omega)
  obtain ⟨v, h1, h2⟩ := h.row j l hl
  obtain ⟨A, cq, rfl, hcq⟩ := own_slice h2
  exact ⟨g, c, A, cq, rfl, hg, hc, ob_ne' (own_blk_ne h.q h.d (by decide)), own_cell h.q h1, h1, hcq, h2, fun o => h.q.frozenAt o⟩
theorem row_get {g c n i k : Nat} {l : List Nat} (h : w.ownsRow 0 tI 1 (.slice (some ⟨g, 0, none⟩) n c) n (ints l)) (hk : l[i]? = some k) : w.cell? ⟨g, i, none⟩ = some (.int .i64 (k : Int)) := own_cell h (by unfold ints; simp [hk])
end

/-! ### handle -/
set_option maxHeartbeats 400000 in
set_option maxRecDepth 100000 in
theorem handle_at (D i : Nat) (r : Rf) (x : Pl) (vp vd vq : Value) (rows : List Value) (w : World) (h : RfRep w D r vp vd vq rows) (hlen : r.places.length ≤ 65536) (hx : r.places[i]? = some x) :
    Calls Try.prog 91 #[.pointer (some ⟨D, 0, none⟩), .int .i64 i] w fun e w' => e = .returned (.agg #[.int .u32 i, .int .u32 x.life]) ∧ w' = w.alloc (.cells #[.int .u32 i, .int .u32 x.life] tH) := by
  have hi := (List.getElem?_eq_some_iff.1 hx).1
  obtain ⟨hD0, _, _, _, _, hDlt⟩ := h.base
  obtain ⟨g, c, rfl, hg, hc, hgD, _⟩ := h.prow hi
  have hn0 := (pl_of h.p hx).c0
  clear h
  go_enter Try.func91, Try.ntmps91
  go_wp2
  refine bodyPost_ret (v := .agg #[.int .u32 i, .int .u32 x.life]) (by simp [results, Try.results91, go_sem]) rfl ⟨rfl, rfl⟩

/-! ### Good -/
set_option maxHeartbeats 800000 in
set_option maxRecDepth 100000 in
theorem good_any (D i l : Nat) (r : Rf) (vp vd vq : Value) (rows : List Value) (w : World) (h : RfRep w D r vp vd vq rows) (hw : r.wf) (hi32 : i < 4294967296) :
    Calls Try.prog 92 #[.pointer (some ⟨D, 0, none⟩), .agg #[.int .u32 i, .int .u32 l]] w fun e w' => e = .returned (.bool (r.good i l)) ∧ Only Nil w w' := by
  obtain ⟨hD0, _, _, _, _, hDlt⟩ := h.base
  have hlen := hw.len
  cases hx : r.places[i]? with
  | none =>
    have hge : r.places.length ≤ i := List.getElem?_eq_none_iff.1 hx
    have hgood : r.good i l = false := by unfold Rf.good; rw [hx]
    rw [hgood]
    obtain ⟨A, c, rfl, hc⟩ := own_slice h.p
    clear h hw hx hgood
    go_enter Try.func92, Try.ntmps92
    go_wp2
    go_quiet (fail)
    go_wp2
    go_ret
    exact ⟨rfl, ((Only.refl _ w).alloc _).drewN _⟩
  | some x =>
    have hi := (List.getElem?_eq_some_iff.1 hx).1
    have hgood : r.good i l = (x.taken && x.life == l) := by unfold Rf.good; rw [hx]
    rw [hgood]
    obtain ⟨g, c, rfl, hg, hc, hgD, _⟩ := h.prow hi
    have hp := pl_of h.p hx
    have hn0 := hp.c0
    have hn1 := hp.c1
    have hn2 := hp.c2
    have hn3 := hp.c3
    have hn4 := hp.c4
    have hle : ((x.life : Int) == (l : Int)) = (x.life == l) := by
      by_cases e : x.life = l
      · rw [e]; simp
      · rw [beq_eq_false_iff_ne.2 e, beq_eq_false_iff_ne.2 (by omega)]
    clear h hw hx hgood hp
    cases ht : x.taken with
    | false =>
      rw [ht] at hn1
      clear ht
      go_enter Try.func92, Try.ntmps92
      go_wp2
      go_quiet (fail)
      go_wp2
      go_region
      go_wp2
      go_ret
      exact ⟨rfl, (((Only.refl _ w).alloc _).drewN _).alloc _⟩
    | true =>
      rw [ht] at hn1
      clear ht
      go_enter Try.func92, Try.ntmps92
      go_wp2
      go_quiet (fail)
      go_wp2
      go_region
      go_wp2
      go_ret
      exact ⟨by simp, (((Only.refl _ w).alloc _).drewN _).alloc _⟩
end Rfw
end Go.Proofs.Ytnhedhmffgaohaa
