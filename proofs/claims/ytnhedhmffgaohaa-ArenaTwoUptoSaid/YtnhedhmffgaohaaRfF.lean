/- The walks of the document's First, Dead, out. -/
import Derived.Test.YtnhedhmffgaohaaRfE
namespace Go.Proofs.Ytnhedhmffgaohaa
open Go.RowKit
namespace Rfw

/-! ### First -/
set_option maxHeartbeats 800000 in
set_option maxRecDepth 100000 in
theorem first_any (D q : Nat) (r : Rf) (L : List Nat) (p : Rp) (w : World) (h : RfIs w D r p) (hw : r.wf) (hL : r.queues[q]? = some L) :
    Calls Try.prog 87 #[.pointer (some ⟨D, 0, none⟩), .int .i64 q] w fun e w' =>
      e = .returned (.tuple #[.agg #[.int .u32 (hIx (rall r.places L).head?), .int .u32 (hLf (rall r.places L).head?)], .bool (rall r.places L).head?.isSome]) ∧ Only Nil w w' := by
  have hlen := rall_len r.places L
  have hql := (hw.ql L (List.mem_of_getElem? hL)).1
  have HA := Lib.hid (all_any D q r L p _ (h.nil ((Only.refl Nil w).alloc (.cells #[.int .u32 0, .int .u32 0] tH))) hw hL)
  clear h hw hL
  go_enter Try.func87, Try.ntmps87
  go_wp2_with fail
  refine HA.out.mono ?_
  rintro e w1 ⟨v, rfl, hrow, hv, ho⟩
  have hbx := box_after' ho
  have hB0 := blk_cell hbx 0
  have hB1 := blk_cell hbx 1
  have hBf0 := blk_frozen hbx 0
  have hBf1 := blk_frozen hbx 1
  have hBlt := blk_lt hbx
  simp only [List.getElem?_toArray, List.getElem?_cons_zero, List.getElem?_cons_succ] at hB0 hB1
  have o1 : Only Nil w w1 := ((Only.refl Nil w).alloc _).trans ho (fun _ _ h => h)
  have hfin : ∀ x y, Only Nil w ((w1.setCell ⟨w.heap.size, 0, none⟩ x).setCell ⟨w.heap.size, 1, none⟩ y) := fun x y =>
    (o1.setCell (p := ⟨w.heap.size, 0, none⟩) (.inr (Nat.le_refl _)) _).setCell (p := ⟨w.heap.size, 1, none⟩) (.inr (Nat.le_refl _)) _
  have hF := Lib.hid hfin
  clear hfin o1 ho hbx
  rcases (by cases rall r.places L <;> simp : rall r.places L = [] ∨ ∃ x l, rall r.places L = x :: l) with hl | ⟨x, l, hl⟩
  · rw [hl] at hrow
    obtain ⟨A, c, rfl, hc⟩ := own_slice hrow.own
    simp only [List.length_nil] at *
    have Hl := Lib.hid hl
    clear hl hrow
    go_wp2
    refine bodyPost_ret (v := .tuple #[.agg #[.int .u32 0, .int .u32 0], .bool false]) (by simp [results, Try.results87, go_sem, hB0, hB1]) rfl ⟨by rw [Hl.out]; rfl, hF.out _ _⟩
  · rw [hl] at hrow hlen
    obtain ⟨g, c, rfl, hg, hc, _⟩ := own_row hrow.own (by simp)
    obtain ⟨hx1, hx2⟩ := hrow.cell (i := 0) (x := x) rfl
    simp only [Nat.zero_mul, Nat.zero_add] at hx1 hx2
    have hgb : g ≠ w.heap.size := by
      have := hv g rfl
      simp only [World.size_alloc] at this
      omega
    have hbg := hgb.symm
    have hn0 : (((x :: l).length : Int) == 0) = false := beq_eq_false_iff_ne.2 (by rw [List.length_cons]; omega)
    have hpos : (0 : Int) < ((x :: l).length : Int) := by rw [List.length_cons]; omega
    generalize (x :: l).length = m at *
    have Hl := Lib.hid hl
    clear hl hrow
    go_wp2
    refine bodyPost_ret (v := .tuple #[.agg #[.int .u32 x.ix, .int .u32 x.life], .bool true]) (by simp [results, Try.results87, go_sem, hB0, hB1]) rfl ⟨by rw [Hl.out]; rfl, hF.out _ _⟩

/-! ### Dead -/
set_option maxHeartbeats 800000 in
set_option maxRecDepth 100000 in
theorem dead_any (D q : Nat) (r : Rf) (L : List Nat) (p : Rp) (w : World) (h : RfIs w D r p) (hw : r.wf) (hL : r.queues[q]? = some L) :
    Calls Try.prog 90 #[.pointer (some ⟨D, 0, none⟩), .int .i64 q] w fun e w' => e = .returned (.int .i64 ((L.length : Int) - ((rall r.places L).length : Int))) ∧ Only Nil w w' := by
  have hlen := rall_len r.places L
  have hqn := hw.qn
  have hql := (hw.ql L (List.mem_of_getElem? hL)).1
  have hqlt := (List.getElem?_eq_some_iff.1 hL).1
  obtain ⟨gq, cq, A, ca, hvq, _, hcq, _, _, hrq, hca, _, _⟩ := h.qrow hL
  have hwr : IntKind.i64.wrap ((L.length : Int) - ((rall r.places L).length : Int)) = (L.length : Int) - ((rall r.places L).length : Int) := IntWalk.i64_in _ (by omega)
  have HA := Lib.hid (fun W (ho : Only Nil w W) => all_any D q r L p W (h.nil ho) hw hL)
  have hqlI : (q : Int) < (r.queues.length : Int) := by omega
  have Sof : ∀ W, Only Nil w W → W.cell? ⟨D, 3, none⟩ = some (.slice (some ⟨gq, 0, none⟩) r.queues.length cq) ∧ W.cell? ⟨gq, q, none⟩ = some (.slice A L.length ca) ∧ Only Nil w W := fun W ho => by
    have h1 := h.nil ho
    have hq1 := h1.q
    rw [hvq] at hq1
    exact ⟨by rw [← hvq]; exact h1.base.2.2.2.1, own_cell hq1 hrq, ho⟩
  have HSof := Lib.hid Sof
  have hDlt := h.base.2.2.2.2.2
  have hgql : gq < w.heap.size := by
    have hq1 := h.q
    rw [hvq] at hq1
    exact own_lt hq1 rfl
  clear Sof h hw hL hvq hrq
  go_enter Try.func90, Try.ntmps90
  go_wp2
  go_region_held3 (fun w' => w'.cell? ⟨D, 3, none⟩ = some (.slice (some ⟨gq, 0, none⟩) r.queues.length cq) ∧ w'.cell? ⟨gq, q, none⟩ = some (.slice A L.length ca) ∧ Only Nil w w')
    (first | exact HSof.out _ (Only.refl _ _).drew | exact HSof.out _ (Only.trans (S := Nil) (T := Nil) (by assumption) hog (fun _ _ h => h)))
    ((first
      | (go_at_call 85; go_split_ands; (refine (HA.out _ (by assumption)).mono ?_); rintro e wg ⟨v, rfl, hrow, hvb, hog⟩; obtain ⟨Av, cv, rfl, hcv⟩ := own_slice hrow.own)))
  all_goals
    go_wp2
    go_ret
    exact ⟨rfl, ((Only.refl _ w).drew).trans hog (fun _ _ h => h)⟩
end Rfw
end Go.Proofs.Ytnhedhmffgaohaa
