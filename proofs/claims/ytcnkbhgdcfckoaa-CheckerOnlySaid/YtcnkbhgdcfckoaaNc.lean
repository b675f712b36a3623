/- What comes, in memory; the walk of the document's meets; the state on the way through step. -/
import Derived.Test.YtcnkbhgdcfckoaaNb
import Derived.Test.YtcnkbhgdcfckoaaMc
set_option linter.unusedVariables false
set_option linter.unusedSimpArgs false
namespace Go.Proofs.Ytcnkbhgdcfckoaa
open Go.RowKit
namespace Ck
abbrev tCo : Nat := 68
def coRow (o : Co) : Array Value := #[.int .u64 o.id, .int .u64 o.left, .int .u64 o.peak, .int .u32 o.mem, .int .i64 o.side, .int .i64 o.kind, .int .i64 o.price]
def zCo : Co := ⟨0, 0, 0, 0, 0, 0, 0⟩
def zB : Bk := ⟨0, 0, [], [], 0, 0⟩
theorem infoCo : (Try.prog.info? tCo).map (·.size) = some 7 := by kernel_rfl
theorem one_co (o : Co) : (coRow o).all (·.oneCell') = true := by cases o; kernel_rfl
theorem co_cells {w : World} {B : Nat} {o : Co} (h : w.heap[B]? = some (.cells (coRow o) tCo (0, 0))) :
    w.cell? ⟨B, 0, none⟩ = some (.int .u64 o.id) ∧ w.cell? ⟨B, 1, none⟩ = some (.int .u64 o.left) ∧ w.cell? ⟨B, 2, none⟩ = some (.int .u64 o.peak) ∧ w.cell? ⟨B, 3, none⟩ = some (.int .u32 o.mem) ∧ w.cell? ⟨B, 4, none⟩ = some (.int .i64 o.side) ∧ w.cell? ⟨B, 5, none⟩ = some (.int .i64 o.kind) ∧ w.cell? ⟨B, 6, none⟩ = some (.int .i64 o.price) ∧ (∀ k, w.frozen? ⟨B, k, none⟩ = false) ∧ B < w.heap.size :=
  ⟨blk_cell h 0, blk_cell h 1, blk_cell h 2, blk_cell h 3, blk_cell h 4, blk_cell h 5, blk_cell h 6, fun k => blk_frozen h k, blk_lt h⟩
theorem rs_cellsR {w : World} {B : Nat} {r : Rs} (h : w.heap[B]? = some (.cells r.row tR (0, 0))) :
    w.cell? ⟨B, 0, none⟩ = some (.int .u64 r.id) ∧ w.cell? ⟨B, 1, none⟩ = some (.int .u32 r.mem) ∧ w.cell? ⟨B, 2, none⟩ = some (.int .i64 r.typ) ∧ w.cell? ⟨B, 3, none⟩ = some (.int .i64 r.price) ∧ w.cell? ⟨B, 4, none⟩ = some (.int .u64 r.vis) ∧ w.cell? ⟨B, 5, none⟩ = some (.int .u64 r.hid) ∧ w.cell? ⟨B, 6, none⟩ = some (.int .u64 r.peak) ∧ (∀ k, w.frozen? ⟨B, k, none⟩ = false) ∧ B < w.heap.size :=
  ⟨blk_cell h 0, blk_cell h 1, blk_cell h 2, blk_cell h 3, blk_cell h 4, blk_cell h 5, blk_cell h 6, fun k => blk_frozen h k, blk_lt h⟩
/-- A side, whichever, by its slice. -/
theorem side_far {b : Bk} {v1 v2 : Value} {s : Int} {w : World} (h1 : LR w v1 b.buys) (h2 : LR w v2 b.sells) (hs : s = 1 ∨ s = 2) : ∃ v, LR w v (sideR b s) ∧ (v = if s = 1 then v1 else v2) ∧
    ∀ W, Calls Try.prog 29 #[.agg (bkRow b v1 v2), .int .i64 s] W fun e w' => e = .returned v ∧ Only Nil W w' := by
  have i1 := h1.isSl
  have i2 := h2.isSl
  rcases hs with rfl | rfl
  · exact ⟨v1, h1, rfl, fun W => (side_any b v1 v2 1 W i1 i2).mono fun e w' ⟨q1, q2⟩ => ⟨q1, q2⟩⟩
  · exact ⟨v2, h2, rfl, fun W => (side_any b v1 v2 2 W i1 i2).mono fun e w' ⟨q1, q2⟩ => ⟨q1, q2⟩⟩
def meetsTail (o : Co) (p : Rs) : Bool := o.kind == 2 || p.price == o.price || (if o.side = 1 then decide (p.price < o.price) else decide (o.price < p.price))
theorem tail_cases (o : Co) (p : Rs) : ((o.kind == 2) = true ∧ meetsTail o p = true) ∨ ((o.kind == 2) = false ∧ (p.price == o.price) = true ∧ meetsTail o p = true) ∨
    ((o.kind == 2) = false ∧ (p.price == o.price) = false ∧ (o.side == 1) = true ∧ meetsTail o p = decide (p.price < o.price)) ∨ ((o.kind == 2) = false ∧ (p.price == o.price) = false ∧ (o.side == 1) = false ∧ meetsTail o p = decide (o.price < p.price)) := by
  unfold meetsTail
  by_cases h1 : o.kind = 2
  · exact .inl ⟨by simp [h1], by simp [h1]⟩
  · have e1 : (o.kind == 2) = false := by simp [h1]
    rw [e1]
    by_cases h2 : p.price = o.price
    · exact .inr (.inl ⟨rfl, by simp [h2], by simp [h2]⟩)
    · have e2 : (p.price == o.price) = false := by simp [h2]
      rw [e2]
      by_cases h3 : o.side = 1
      · exact .inr (.inr (.inl ⟨rfl, rfl, by simp [h3], by simp [h3]⟩))
      · exact .inr (.inr (.inr ⟨rfl, rfl, by simp [h3], by simp [h3]⟩))
set_option maxHeartbeats 1600000 in
set_option maxRecDepth 100000 in
theorem meetsR_any (b : Bk) (v1 v2 : Value) (o : Co) (w : World) (h1 : LR w v1 b.buys) (h2 : LR w v2 b.sells) (hs : o.side = 1 ∨ o.side = 2) :
    Calls Try.prog 43 #[.agg (bkRow b v1 v2), .agg (coRow o)] w fun e w' => e = .returned (.bool (meetsR b o)) ∧ Only Nil w w' := by
  obtain ⟨v, hv, _, hc⟩ := side_far h1 h2 (s := 3 - o.side) (by omega)
  have hs1 : 1 ≤ o.side := by omega
  have hs2 : o.side ≤ 2 := by omega
  have i1 := h1.isSl
  have i2 := h2.isSl
  obtain ⟨A, c, rfl, hlc, hcm⟩ := hv.sl
  obtain ⟨A1, n1, c1, rfl⟩ := i1
  obtain ⟨A2, n2, c2, rfl⟩ := i2
  have HC := Lib.hid hc
  have HL := Lib.hid hv
  have HB0 := Lib.hid (blk_alloc (blk_new w (.cells (bkRow b (.slice A1 n1 c1) (.slice A2 n2 c2)) tBk)) (.cells (coRow o) tCo))
  have HO0 := Lib.hid (blk_new' (w.alloc (.cells (bkRow b (.slice A1 n1 c1) (.slice A2 n2 c2)) tBk)) (.cells (coRow o) tCo) (w.heap.size + 1) (by simp))
  have HN0 := Lib.hid (((Only.refl Nil w).alloc (.cells (bkRow b (.slice A1 n1 c1) (.slice A2 n2 c2)) tBk)).alloc (.cells (coRow o) tCo))
  have HM : Hid (meetsR b o = (match sideR b (3 - o.side) with | [] => false | p :: _ => meetsTail o p)) := Lib.hid rfl
  clear h1 h2 hs hc hv
  go_enter Try.func43, Try.ntmps43
  unfold bkRow coRow
  go_upto_region 1 with fail
  generalize hW : World.alloc (World.alloc w _) _ = W0
  have hW' : ((w.alloc (.cells (bkRow b (.slice A1 n1 c1) (.slice A2 n2 c2)) tBk)).alloc (.cells (coRow o) tCo)) = W0 := hW
  rw [hW'] at HB0 HO0 HN0
  clear hW hW'
  obtain ⟨b0, b1, b2, b3, b4, b5, bf, bl⟩ := blk_cellsof HB0.out
  obtain ⟨o0, o1, o2, o3, o4, o5, o6, of, ol⟩ := co_cells HO0.out
  go_wp2_with fail
  refine (HC.out _).mono ?_
  rintro e w1 ⟨rfl, ho⟩
  have HO1 := Lib.hid (ho.blk HO0.out (fun h => h))
  have HN1 := Lib.hid (HN0.out.trans (S := Nil) ho (fun _ _ h => h))
  clear ho b0 b1 b2 b3 b4 b5 bf bl o0 o1 o2 o3 o4 o5 o6 of ol HB0 HO0 HN0
  obtain ⟨o0, o1, o2, o3, o4, o5, o6, of, ol⟩ := co_cells HO1.out
  cases hd : sideR b (3 - o.side) with
  | nil =>
    rw [hd] at HM
    have HM2 : Hid (meetsR b o = false) := Lib.hid HM.out
    simp only [List.length_nil]
    have hz : (((0 : Nat) : Int) == 0) = true := rfl
    clear HM hd HL
    go_wp2
    go_ret
    exact ⟨by rw [HM2.out]; rfl, HN1.out⟩
  | cons p r =>
    have HM2 : Hid (meetsR b o = meetsTail o p) := Lib.hid (by rw [HM.out, hd])
    have hl := HL.out
    rw [hd] at hl
    obtain ⟨g, off, rfl, _, _, ha⟩ := (hl.nil HN1.out).get (i := 0) (r := p) rfl
    have a3 := ha.c3
    have lg := ha.lt
    simp only [Nat.zero_mul, Nat.add_zero] at a3
    have hn : 0 < (p :: r).length := by simp
    have hn0 : (((p :: r).length : Int) == 0) = false := by simp; omega
    generalize (p :: r).length = N at *
    have hni : (0 : Int) < (N : Int) := by omega
    clear HM hd HL hl ha
    have hT := tail_cases o p
    rcases hT with ⟨k1, kz⟩ | ⟨k1, k2, kz⟩ | ⟨k1, k2, k3, kz⟩ | ⟨k1, k2, k3, kz⟩
    all_goals
      rw [kz] at HM2
      clear kz
      go_upto_region 4 with fail
      go_quiet (fail)
      go_wp2
      try go_quiet (fail)
      try go_wp2
      go_ret
      exact ⟨by rw [HM2.out]; rfl, by first | exact HN1.out.drewN _ | exact (HN1.out.drewN _).drewN _⟩
end Ck
end Go.Proofs.Ytcnkbhgdcfckoaa
namespace Go.Proofs.Ytcnkbhgdcfckoaa
open Go.RowKit
namespace Ck
def td0 : Array Value := tdRow zB (.slice none 0 0) (.slice none 0 0) (.slice none 0 0)
/-- The boxes of what was told (T) and of what comes (O), the results' variables (R1, R2); the lists; nothing old has turned. -/
structure StW (w : World) (T O R1 R2 : Nat) (b : Bk) (l : List Ev) (v1 v2 v3 : Value) (o : Co) (W : World) : Prop where
  t : W.heap[T]? = some (.cells (tdRow b v1 v2 v3) tTd (0, 0))
  o : W.heap[O]? = some (.cells (coRow o) tCo (0, 0))
  r1 : W.heap[R1]? = some (.cells td0 tTd (0, 0))
  r2 : W.heap[R2]? = some (.cells (coRow zCo) tCo (0, 0))
  lb : LR W v1 b.buys
  ls : LR W v2 b.sells
  le : LE W v3 l
  only : Only Nil w W
  new : w.heap.size ≤ T ∧ w.heap.size ≤ O ∧ T ≠ R1 ∧ O ≠ R2
section
variable {w W W1 : World} {T O R1 R2 : Nat} {b : Bk} {l : List Ev} {v1 v2 v3 : Value} {o : Co}
theorem StW.nil (h : StW w T O R1 R2 b l v1 v2 v3 o W) (ho : Only Nil W W1) : StW w T O R1 R2 b l v1 v2 v3 o W1 :=
  ⟨ho.blk h.t (fun q => q), ho.blk h.o (fun q => q), ho.blk h.r1 (fun q => q), ho.blk h.r2 (fun q => q), h.lb.nil ho, h.ls.nil ho, h.le.nil ho, h.only.trans ho (fun _ _ q => q), h.new⟩
theorem StW.drew (h : StW w T O R1 R2 b l v1 v2 v3 o W) : StW w T O R1 R2 b l v1 v2 v3 o W.drew := h.nil (Only.refl _ _).drew
theorem StW.drewN (h : StW w T O R1 R2 b l v1 v2 v3 o W) (n : Nat) : StW w T O R1 R2 b l v1 v2 v3 o (W.drewN n) := h.nil ((Only.refl _ _).drewN n)
theorem StW.alloc (h : StW w T O R1 R2 b l v1 v2 v3 o W) (x : Obj) : StW w T O R1 R2 b l v1 v2 v3 o (W.alloc x) := h.nil ((Only.refl _ _).alloc x)
theorem only_row {g : Nat} (W : World) (cs : Array Value) : Only (fun k => k = g) W (W.setRow g cs) := (Only.refl (fun k => k = g) W).setRow (.inl rfl) cs
theorem blk_off {w : World} {g p : Nat} {t s : TypeId} {cs cs' : Array Value} (h : w.heap[g]? = some (.cells cs t (0, 0))) (hp : w.heap[p]? = some (.cells cs' s (0, 0))) (hne : t ≠ s) (r : Array Value) : (w.setRow p r).heap[g]? = some (.cells cs t (0, 0)) :=
  blk_setRow_far h (blk_ne h hp hne) r
/-- What was told is another. -/
theorem StW.setT (h : StW w T O R1 R2 b l v1 v2 v3 o W) {b' : Bk} {l' : List Ev} {v1' v2' v3' : Value} (h1 : LR W v1' b'.buys) (h2 : LR W v2' b'.sells) (h3 : LE W v3' l') : StW w T O R1 R2 b' l' v1' v2' v3' o (W.setRow T (tdRow b' v1' v2' v3')) := by
  have hT : ∀ (T1 : Nat), T1 ≠ tTd → ∀ k, (fun k => k = T) k → ∃ t, Ty W k t ∧ t ≠ T1 := fun T1 hT1 k hk => ⟨tTd, hk ▸ blk_ty h.t, fun e => hT1 e.symm⟩
  exact ⟨blk_setRow h.t _, blk_off h.o h.t (by decide) _, blk_setRow_far h.r1 (fun e => h.new.2.2.1 e.symm) _, blk_off h.r2 h.t (by decide) _,
    h1.only (only_row W _) (hT tR (by decide)), h2.only (only_row W _) (hT tR (by decide)), h3.only (only_row W _) (hT tEvt (by decide)), h.only.setRow (.inr h.new.1) _, h.new⟩
/-- What comes is another. -/
theorem StW.setO (h : StW w T O R1 R2 b l v1 v2 v3 o W) (o' : Co) : StW w T O R1 R2 b l v1 v2 v3 o' (W.setRow O (coRow o')) := by
  have hT : ∀ (T1 : Nat), T1 ≠ tCo → ∀ k, (fun k => k = O) k → ∃ t, Ty W k t ∧ t ≠ T1 := fun T1 hT1 k hk => ⟨tCo, hk ▸ blk_ty h.o, fun e => hT1 e.symm⟩
  exact ⟨blk_off h.t h.o (by decide) _, blk_setRow h.o _, blk_off h.r1 h.o (by decide) _, blk_setRow_far h.r2 (fun e => h.new.2.2.2 e.symm) _,
    h.lb.only (only_row W _) (hT tR (by decide)), h.ls.only (only_row W _) (hT tR (by decide)), h.le.only (only_row W _) (hT tEvt (by decide)), h.only.setRow (.inr h.new.2.1) _, h.new⟩
/-- One cell of what comes is another. -/
theorem StW.setO1 (h : StW w T O R1 R2 b l v1 v2 v3 o W) {o' : Co} {i : Nat} {u : Value} (he : (coRow o).setIfInBounds i u = coRow o') : StW w T O R1 R2 b l v1 v2 v3 o' (W.setCell ⟨O, i, none⟩ u) := by
  have hT : ∀ (T1 : Nat), T1 ≠ tCo → ∀ k, (fun k => k = O) k → ∃ t, Ty W k t ∧ t ≠ T1 := fun T1 hT1 k hk => ⟨tCo, hk ▸ blk_ty h.o, fun e => hT1 e.symm⟩
  have ho : Only (fun k => k = O) W (W.setCell ⟨O, i, none⟩ u) := (Only.refl (fun k => k = O) W).setCell (p := ⟨O, i, none⟩) (.inl rfl) u
  exact ⟨blk_far h.t (blk_ne h.t h.o (by decide)) _, he ▸ blk_set h.o i u, blk_far h.r1 (blk_ne h.r1 h.o (by decide)) _, blk_far h.r2 (fun e => h.new.2.2.2 e.symm) _,
    h.lb.only ho (hT tR (by decide)), h.ls.only ho (hT tR (by decide)), h.le.only ho (hT tEvt (by decide)), h.only.setCell (p := ⟨O, i, none⟩) (.inr h.new.2.1) _, h.new⟩
end
theorem set_cells {b b' : Bk} {s : Int} {l : List Rs} {v1 v2 vl : Value} (hs : s = 1 ∨ s = 2) (hb : b' = b.set s l) :
    (if s = 1 then bkRow b vl v2 else bkRow b v1 vl) = bkRow b' (if s = 1 then vl else v1) (if s = 1 then v2 else vl) := by
  subst hb
  rcases hs with rfl | rfl <;> rfl
theorem LR.set {W : World} {b : Bk} {s : Int} {l : List Rs} {v1 v2 vl : Value} (hs : s = 1 ∨ s = 2) (h1 : LR W v1 b.buys) (h2 : LR W v2 b.sells) (hl : LR W vl l) : LR W (if s = 1 then vl else v1) (b.set s l).buys ∧ LR W (if s = 1 then v2 else vl) (b.set s l).sells := by
  rcases hs with rfl | rfl
  · exact ⟨hl, h2⟩
  · exact ⟨h1, hl⟩
/-- A list that lies elsewhere. -/
def Off {α : Type} (v : Value) (l : List α) (M : Nat) : Prop := l ≠ [] → v.ownBlock ≠ some M
theorem Lst.off {α : Type} {enc : α → List Value} {T m : Nat} {W W1 : World} {v : Value} {l : List α} {M : Nat} (h : Lst enc T m W v l) (hn : Off v l M) (ho : Only (fun k => k = M) W W1) : Lst enc T m W1 v l :=
  ⟨h.sl, fun hl => by
    obtain ⟨g, off, c, cs, h1, h2, h3⟩ := h.row hl
    exact ⟨g, off, c, cs, h1, ho.blk h2 (fun q => hn hl (by rw [h1]; exact congrArg some q)), h3⟩⟩
theorem Lst.off_new {α : Type} {enc : α → List Value} {T m : Nat} {W : World} {v : Value} {l : List α} {M : Nat} (h : Lst enc T m W v l) (hM : W.heap.size ≤ M) : Off v l M := fun hl => by
  obtain ⟨g, off, c, cs, rfl, h2, h3⟩ := h.row hl
  intro e
  have e' : g = M := Option.some.inj e
  have := blk_lt h2
  omega
theorem off_own {α : Type} {v : Value} {l : List α} {M B : Nat} (h : ∀ k, v.ownBlock = some k → B ≤ k) (hM : M < B) : Off v l M := fun _ e => by
  have := h M e
  omega
/-- The box of an order, beside all that. -/
structure StM (w : World) (T O R1 R2 M : Nat) (b : Bk) (l : List Ev) (v1 v2 v3 : Value) (o : Co) (m : Rs) (W : World) : Prop where
  st : StW w T O R1 R2 b l v1 v2 v3 o W
  m : W.heap[M]? = some (.cells m.row tR (0, 0))
  new : w.heap.size ≤ M
  o1 : Off v1 b.buys M
  o2 : Off v2 b.sells M
section
variable {w W W1 : World} {T O R1 R2 M : Nat} {b : Bk} {l : List Ev} {v1 v2 v3 : Value} {o : Co} {m : Rs}
theorem StM.nil (h : StM w T O R1 R2 M b l v1 v2 v3 o m W) (ho : Only Nil W W1) : StM w T O R1 R2 M b l v1 v2 v3 o m W1 := ⟨h.st.nil ho, ho.blk h.m (fun q => q), h.new, h.o1, h.o2⟩
theorem StM.setT (h : StM w T O R1 R2 M b l v1 v2 v3 o m W) {b' : Bk} {l' : List Ev} {v1' v2' v3' : Value} (h1 : LR W v1' b'.buys) (h2 : LR W v2' b'.sells) (h3 : LE W v3' l') (q1 : Off v1' b'.buys M) (q2 : Off v2' b'.sells M) :
    StM w T O R1 R2 M b' l' v1' v2' v3' o m (W.setRow T (tdRow b' v1' v2' v3')) := ⟨h.st.setT h1 h2 h3, blk_off h.m h.st.t (by decide) _, h.new, q1, q2⟩
theorem StM.setO1 (h : StM w T O R1 R2 M b l v1 v2 v3 o m W) {o' : Co} {i : Nat} {u : Value} (he : (coRow o).setIfInBounds i u = coRow o') : StM w T O R1 R2 M b l v1 v2 v3 o' m (W.setCell ⟨O, i, none⟩ u) :=
  ⟨h.st.setO1 he, blk_far h.m (blk_ne h.m h.st.o (by decide)) _, h.new, h.o1, h.o2⟩
/-- One cell of the order is another. -/
theorem StM.setM (h : StM w T O R1 R2 M b l v1 v2 v3 o m W) {m' : Rs} {i : Nat} {u : Value} (he : m.row.setIfInBounds i u = m'.row) : StM w T O R1 R2 M b l v1 v2 v3 o m' (W.setCell ⟨M, i, none⟩ u) := by
  have ho : Only (fun k => k = M) W (W.setCell ⟨M, i, none⟩ u) := (Only.refl (fun k => k = M) W).setCell (p := ⟨M, i, none⟩) (.inl rfl) u
  have hT : ∀ k, (fun k => k = M) k → ∃ t, Ty W k t ∧ t ≠ tEvt := fun k hk => ⟨tR, hk ▸ blk_ty h.m, by decide⟩
  exact ⟨⟨blk_far h.st.t (blk_ne h.st.t h.m (by decide)) _, blk_far h.st.o (blk_ne h.st.o h.m (by decide)) _, blk_far h.st.r1 (blk_ne h.st.r1 h.m (by decide)) _, blk_far h.st.r2 (blk_ne h.st.r2 h.m (by decide)) _,
    h.st.lb.off h.o1 ho, h.st.ls.off h.o2 ho, h.st.le.only ho hT, h.st.only.setCell (p := ⟨M, i, none⟩) (.inr h.new) _, h.st.new⟩, he ▸ blk_set h.m i u, h.new, h.o1, h.o2⟩
end
end Ck
end Go.Proofs.Ytcnkbhgdcfckoaa
namespace Go.Proofs.Ytcnkbhgdcfckoaa
open Go.RowKit
namespace Ck
theorem laysR : Lays tR zR.row := fun W => by kernel_rfl
theorem st_begin {b : Bk} {l : List Ev} {v1 v2 v3 : Value} {o : Co} {w : World} (h1 : LR w v1 b.buys) (h2 : LR w v2 b.sells) (h3 : LE w v3 l) :
    StW w w.heap.size (w.heap.size + 1) (w.heap.size + 1 + 1) (w.heap.size + 1 + 1 + 1) b l v1 v2 v3 o ((((w.alloc (.cells (tdRow b v1 v2 v3) tTd)).alloc (.cells (coRow o) tCo)).alloc (.cells td0 tTd)).alloc (.cells (coRow zCo) tCo)) := by
  have ho := ((((Only.refl Nil w).alloc (.cells (tdRow b v1 v2 v3) tTd)).alloc (.cells (coRow o) tCo)).alloc (.cells td0 tTd)).alloc (.cells (coRow zCo) tCo)
  exact ⟨blk_alloc (blk_alloc (blk_alloc (blk_new _ _) _) _) _, blk_alloc (blk_alloc (blk_new' _ _ _ (by simp)) _) _, blk_alloc (blk_new' _ _ _ (by simp)) _, blk_new' _ _ _ (by simp),
    h1.nil ho, h2.nil ho, h3.nil ho, ho, ⟨by omega, by omega, by omega, by omega⟩⟩
/-- What a step, or several, leave. -/
def StepPost (t : Td) (o : Co) (w : World) (e : Ending) (w' : World) : Prop :=
  ∃ v1 v2 v3, e = .returned (.tuple #[.agg (tdRow t.1 v1 v2 v3), .agg (coRow o)]) ∧ LR w' v1 t.1.buys ∧ LR w' v2 t.1.sells ∧ LE w' v3 t.2 ∧ Only Nil w w'
theorem step_own_eq {b : Bk} {l : List Ev} {o : Co} {m : Rs} {r : List Rs} (hd : sideR b (3 - o.side) = m :: r) (ho : ownR b o m = true) : stepR (b, l) o = stepOwn (b, l) o m (m :: r) := by
  unfold stepR
  simp only
  rw [hd]
  simp only
  rw [if_pos ho]
theorem step_trade_eq {b : Bk} {l : List Ev} {o : Co} {m : Rs} {r : List Rs} (hd : sideR b (3 - o.side) = m :: r) (ho : ownR b o m = false) : stepR (b, l) o = stepTrade (b, l) o m (m :: r) := by
  unfold stepR
  simp only
  rw [hd]
  simp only
  rw [if_neg (by rw [ho]; decide)]
abbrev set7 (W : World) (g : Nat) (u0 u1 u2 u3 u4 u5 u6 : Value) : World := ((((((W.setCell ⟨g, 0, none⟩ u0).setCell ⟨g, 1, none⟩ u1).setCell ⟨g, 2, none⟩ u2).setCell ⟨g, 3, none⟩ u3).setCell ⟨g, 4, none⟩ u4).setCell ⟨g, 5, none⟩ u5).setCell ⟨g, 6, none⟩ u6
theorem set7_blk {W : World} {g : Nat} {t : TypeId} {a0 a1 a2 a3 a4 a5 a6 : Value} (h : W.heap[g]? = some (.cells #[a0, a1, a2, a3, a4, a5, a6] t (0, 0))) (u0 u1 u2 u3 u4 u5 u6 : Value) : (set7 W g u0 u1 u2 u3 u4 u5 u6).heap[g]? = some (.cells #[u0, u1, u2, u3, u4, u5, u6] t (0, 0)) :=
 by
  have h1 : (W.setCell ⟨g, 0, none⟩ u0).heap[g]? = some (.cells #[u0, a1, a2, a3, a4, a5, a6] t (0, 0)) := blk_set h 0 u0
  have h2 : ((W.setCell ⟨g, 0, none⟩ u0).setCell ⟨g, 1, none⟩ u1).heap[g]? = some (.cells #[u0, u1, a2, a3, a4, a5, a6] t (0, 0)) := blk_set h1 1 u1
  have h3 : (((W.setCell ⟨g, 0, none⟩ u0).setCell ⟨g, 1, none⟩ u1).setCell ⟨g, 2, none⟩ u2).heap[g]? = some (.cells #[u0, u1, u2, a3, a4, a5, a6] t (0, 0)) := blk_set h2 2 u2
  have h4 : ((((W.setCell ⟨g, 0, none⟩ u0).setCell ⟨g, 1, none⟩ u1).setCell ⟨g, 2, none⟩ u2).setCell ⟨g, 3, none⟩ u3).heap[g]? = some (.cells #[u0, u1, u2, u3, a4, a5, a6] t (0, 0)) := blk_set h3 3 u3
  have h5 : (((((W.setCell ⟨g, 0, none⟩ u0).setCell ⟨g, 1, none⟩ u1).setCell ⟨g, 2, none⟩ u2).setCell ⟨g, 3, none⟩ u3).setCell ⟨g, 4, none⟩ u4).heap[g]? = some (.cells #[u0, u1, u2, u3, u4, a5, a6] t (0, 0)) := blk_set h4 4 u4
  have h6 : ((((((W.setCell ⟨g, 0, none⟩ u0).setCell ⟨g, 1, none⟩ u1).setCell ⟨g, 2, none⟩ u2).setCell ⟨g, 3, none⟩ u3).setCell ⟨g, 4, none⟩ u4).setCell ⟨g, 5, none⟩ u5).heap[g]? = some (.cells #[u0, u1, u2, u3, u4, u5, a6] t (0, 0)) := blk_set h5 5 u5
  have h7 : (((((((W.setCell ⟨g, 0, none⟩ u0).setCell ⟨g, 1, none⟩ u1).setCell ⟨g, 2, none⟩ u2).setCell ⟨g, 3, none⟩ u3).setCell ⟨g, 4, none⟩ u4).setCell ⟨g, 5, none⟩ u5).setCell ⟨g, 6, none⟩ u6).heap[g]? = some (.cells #[u0, u1, u2, u3, u4, u5, u6] t (0, 0)) := blk_set h6 6 u6
  exact h7
theorem set7_only (W : World) (g : Nat) (u0 u1 u2 u3 u4 u5 u6 : Value) : Only (fun k => k = g) W (set7 W g u0 u1 u2 u3 u4 u5 u6) := by
  have h0 := Only.refl (fun k => k = g) W
  exact ((((((h0.setCell (p := ⟨g, 0, none⟩) (.inl rfl) u0).setCell (p := ⟨g, 1, none⟩) (.inl rfl) u1).setCell (p := ⟨g, 2, none⟩) (.inl rfl) u2).setCell (p := ⟨g, 3, none⟩) (.inl rfl) u3).setCell (p := ⟨g, 4, none⟩) (.inl rfl) u4).setCell (p := ⟨g, 5, none⟩) (.inl rfl) u5).setCell (p := ⟨g, 6, none⟩) (.inl rfl) u6
abbrev set6 (W : World) (g : Nat) (u0 u1 u2 u3 u4 u5 : Value) : World := (((((W.setCell ⟨g, 0, none⟩ u0).setCell ⟨g, 1, none⟩ u1).setCell ⟨g, 2, none⟩ u2).setCell ⟨g, 3, none⟩ u3).setCell ⟨g, 4, none⟩ u4).setCell ⟨g, 5, none⟩ u5
theorem set6_blk {W : World} {g : Nat} {t : TypeId} {a0 a1 a2 a3 a4 a5 a6 : Value} (h : W.heap[g]? = some (.cells #[a0, a1, a2, a3, a4, a5, a6] t (0, 0))) (u0 u1 u2 u3 u4 u5 : Value) : (set6 W g u0 u1 u2 u3 u4 u5).heap[g]? = some (.cells #[u0, u1, u2, u3, u4, u5, a6] t (0, 0)) :=
 by
  have h1 : (W.setCell ⟨g, 0, none⟩ u0).heap[g]? = some (.cells #[u0, a1, a2, a3, a4, a5, a6] t (0, 0)) := blk_set h 0 u0
  have h2 : ((W.setCell ⟨g, 0, none⟩ u0).setCell ⟨g, 1, none⟩ u1).heap[g]? = some (.cells #[u0, u1, a2, a3, a4, a5, a6] t (0, 0)) := blk_set h1 1 u1
  have h3 : (((W.setCell ⟨g, 0, none⟩ u0).setCell ⟨g, 1, none⟩ u1).setCell ⟨g, 2, none⟩ u2).heap[g]? = some (.cells #[u0, u1, u2, a3, a4, a5, a6] t (0, 0)) := blk_set h2 2 u2
  have h4 : ((((W.setCell ⟨g, 0, none⟩ u0).setCell ⟨g, 1, none⟩ u1).setCell ⟨g, 2, none⟩ u2).setCell ⟨g, 3, none⟩ u3).heap[g]? = some (.cells #[u0, u1, u2, u3, a4, a5, a6] t (0, 0)) := blk_set h3 3 u3
  have h5 : (((((W.setCell ⟨g, 0, none⟩ u0).setCell ⟨g, 1, none⟩ u1).setCell ⟨g, 2, none⟩ u2).setCell ⟨g, 3, none⟩ u3).setCell ⟨g, 4, none⟩ u4).heap[g]? = some (.cells #[u0, u1, u2, u3, u4, a5, a6] t (0, 0)) := blk_set h4 4 u4
  have h6 : ((((((W.setCell ⟨g, 0, none⟩ u0).setCell ⟨g, 1, none⟩ u1).setCell ⟨g, 2, none⟩ u2).setCell ⟨g, 3, none⟩ u3).setCell ⟨g, 4, none⟩ u4).setCell ⟨g, 5, none⟩ u5).heap[g]? = some (.cells #[u0, u1, u2, u3, u4, u5, a6] t (0, 0)) := blk_set h5 5 u5
  exact h6
theorem set6_only (W : World) (g : Nat) (u0 u1 u2 u3 u4 u5 : Value) : Only (fun k => k = g) W (set6 W g u0 u1 u2 u3 u4 u5) := by
  have h0 := Only.refl (fun k => k = g) W
  exact (((((h0.setCell (p := ⟨g, 0, none⟩) (.inl rfl) u0).setCell (p := ⟨g, 1, none⟩) (.inl rfl) u1).setCell (p := ⟨g, 2, none⟩) (.inl rfl) u2).setCell (p := ⟨g, 3, none⟩) (.inl rfl) u3).setCell (p := ⟨g, 4, none⟩) (.inl rfl) u4).setCell (p := ⟨g, 5, none⟩) (.inl rfl) u5
/-- The book in the box of what was told is another, stored cell by cell. -/
theorem StW.setB {w W : World} {T O R1 R2 : Nat} {b b' : Bk} {l : List Ev} {v1 v2 v3 x y : Value} {o : Co} (h : StW w T O R1 R2 b l v1 v2 v3 o W) (h1 : LR W x b'.buys) (h2 : LR W y b'.sells) :
    StW w T O R1 R2 b' l x y v3 o (set6 W T (.int .i64 b'.cap) (.int .i64 b'.meet) x y (.int .u64 b'.high) (.int .u64 b'.seq)) := by
  have ho := set6_only W T (.int .i64 b'.cap) (.int .i64 b'.meet) x y (.int .u64 b'.high) (.int .u64 b'.seq)
  have hT : ∀ (T1 : Nat), T1 ≠ tTd → ∀ k, (fun k => k = T) k → ∃ t, Ty W k t ∧ t ≠ T1 := fun T1 hT1 k hk => ⟨tTd, hk ▸ blk_ty h.t, fun e => hT1 e.symm⟩
  exact ⟨set6_blk h.t _ _ _ _ _ _, ho.blk h.o (fun q => blk_ne h.o h.t (by decide) q), ho.blk h.r1 (fun q => h.new.2.2.1 q.symm), ho.blk h.r2 (fun q => blk_ne h.r2 h.t (by decide) q),
    h1.only ho (hT tR (by decide)), h2.only ho (hT tR (by decide)), h.le.only ho (hT tEvt (by decide)), h.only.trans ho (fun k hk q => by have := h.new.1; omega), h.new⟩
/-- With another list on a side. -/
theorem with_set {b : Bk} {s : Int} {L : List Rs} {v1 v2 vl : Value} {W : World} (hs : s = 1 ∨ s = 2) (h1 : LR W v1 b.buys) (h2 : LR W v2 b.sells) (hl : LR W vl L) :
    ∃ x y, IsSl x ∧ IsSl y ∧ ∀ W1, Only Nil W W1 → (Calls Try.prog 27 #[.agg (bkRow b v1 v2), .int .i64 s, vl] W1 fun e w' => e = .returned (.agg (bkRow (b.set s L) x y)) ∧ LR w' x (b.set s L).buys ∧ LR w' y (b.set s L).sells ∧ Only Nil W1 w') := by
  have i1 := h1.isSl
  have i2 := h2.isSl
  have i3 := hl.isSl
  rcases hs with rfl | rfl
  · exact ⟨vl, v2, i3, i2, fun W1 ho1 => (with_any b v1 v2 vl 1 W1 i1 i2 i3).mono fun e w' ⟨q1, q2⟩ => ⟨q1, (hl.nil ho1).nil q2, (h2.nil ho1).nil q2, q2⟩⟩
  · exact ⟨v1, vl, i1, i3, fun W1 ho1 => (with_any b v1 v2 vl 2 W1 i1 i2 i3).mono fun e w' ⟨q1, q2⟩ => ⟨q1, (h1.nil ho1).nil q2, (hl.nil ho1).nil q2, q2⟩⟩
theorem results_two {fn : Func} {p q : Tmp} {ty1 ty2 : TypeId} (h : fn.results = #[.cell p ty1, .cell q ty2]) (tmps : Array Value) (w : World) (g1 g2 : Nat) (t1 t2 : TypeId) (cs1 cs2 : Array Value) (d1 d2 : TypeDesc)
    (hp : tmps.getD p undef = .pointer (some ⟨g1, 0, none⟩)) (hq : tmps.getD q undef = .pointer (some ⟨g2, 0, none⟩)) (hg1 : w.heap[g1]? = some (.cells cs1 t1 (0, 0))) (hg2 : w.heap[g2]? = some (.cells cs2 t2 (0, 0)))
    (hu1 : Try.prog.underlying ty1 = some d1) (hd1 : d1.isRow = true) (hi1 : (Try.prog.info? ty1).map (·.size) = some cs1.size)
    (hu2 : Try.prog.underlying ty2 = some d2) (hd2 : d2.isRow = true) (hi2 : (Try.prog.info? ty2).map (·.size) = some cs2.size) :
    (results fn tmps).run Try.prog w = .ok (.tuple #[.agg cs1, .agg cs2]) w := by
  have l1 := run_loadVar_row w g1 t1 ty1 cs1 (0, 0) d1 hg1 hu1 (by cases d1 <;> first | rfl | simp [TypeDesc.isRow] at hd1) hi1
  have l2 := run_loadVar_row w g2 t2 ty2 cs2 (0, 0) d2 hg2 hu2 (by cases d2 <;> first | rfl | simp [TypeDesc.isRow] at hd2) hi2
  have hp' : tmps[p]?.getD undef = .pointer (some ⟨g1, 0, none⟩) := by simpa using hp
  have hq' : tmps[q]?.getD undef = .pointer (some ⟨g2, 0, none⟩) := by simpa using hq
  simp [results, h, hp', hq', asAddr, l1, l2, Sem.run_bind, Result.andThen]
/-- The end: both results are stored, in either order. -/
theorem st_ret {w W W1 W2 : World} {T O R1 R2 : Nat} {b : Bk} {l : List Ev} {v1 v2 v3 : Value} {o : Co} (h : StW w T O R1 R2 b l v1 v2 v3 o W) (hR : w.heap.size ≤ R1 ∧ w.heap.size ≤ R2)
    (hW : (W1 = set7 W R1 (.int .i64 b.cap) (.int .i64 b.meet) v1 v2 (.int .u64 b.high) (.int .u64 b.seq) v3 ∧ W2 = set7 W1 R2 (.int .u64 o.id) (.int .u64 o.left) (.int .u64 o.peak) (.int .u32 o.mem) (.int .i64 o.side) (.int .i64 o.kind) (.int .i64 o.price)) ∨
      (W1 = set7 W R2 (.int .u64 o.id) (.int .u64 o.left) (.int .u64 o.peak) (.int .u32 o.mem) (.int .i64 o.side) (.int .i64 o.kind) (.int .i64 o.price) ∧ W2 = set7 W1 R1 (.int .i64 b.cap) (.int .i64 b.meet) v1 v2 (.int .u64 b.high) (.int .u64 b.seq) v3)) :
    W2.heap[R1]? = some (.cells (tdRow b v1 v2 v3) tTd (0, 0)) ∧ W2.heap[R2]? = some (.cells (coRow o) tCo (0, 0)) ∧ LR W2 v1 b.buys ∧ LR W2 v2 b.sells ∧ LE W2 v3 l ∧ Only Nil w W2 := by
  have hne : R1 ≠ R2 := blk_ne h.r1 h.r2 (by decide)
  have key : ∀ {X Y : World} {p q : Nat} {tp tq : TypeId} {cp cq : Array Value}, W.heap[p]? = some (.cells cp tp (0, 0)) → Only (fun k => k = p) W X → X.heap[q]? = some (.cells cq tq (0, 0)) → Only (fun k => k = q) X Y → w.heap.size ≤ p → w.heap.size ≤ q → tp ≠ tR → tp ≠ tEvt → tq ≠ tR → tq ≠ tEvt →
      LR Y v1 b.buys ∧ LR Y v2 b.sells ∧ LE Y v3 l ∧ Only Nil w Y := by
    intro X Y p q tp tq cp cq hp ho1 hq ho2 hwp hwq e1 e2 e3 e4
    have hT : ∀ (T1 : Nat), tp ≠ T1 → ∀ k, (fun k => k = p) k → ∃ t, Ty W k t ∧ t ≠ T1 := fun T1 hT1 k hk => ⟨tp, hk ▸ blk_ty hp, hT1⟩
    have hU : ∀ (T1 : Nat), tq ≠ T1 → ∀ k, (fun k => k = q) k → ∃ t, Ty X k t ∧ t ≠ T1 := fun T1 hT1 k hk => ⟨tq, hk ▸ blk_ty hq, hT1⟩
    exact ⟨(h.lb.only ho1 (hT tR e1)).only ho2 (hU tR e3), (h.ls.only ho1 (hT tR e1)).only ho2 (hU tR e3), (h.le.only ho1 (hT tEvt e2)).only ho2 (hU tEvt e4),
      (h.only.trans ho1 (fun k hk q => by omega)).trans ho2 (fun k hk q => by omega)⟩
  rcases hW with ⟨rfl, rfl⟩ | ⟨rfl, rfl⟩
  · have ho1 := set7_only W R1 (.int .i64 b.cap) (.int .i64 b.meet) v1 v2 (.int .u64 b.high) (.int .u64 b.seq) v3
    have hb1 := set7_blk h.r1 (.int .i64 b.cap) (.int .i64 b.meet) v1 v2 (.int .u64 b.high) (.int .u64 b.seq) v3
    have hb2 := ho1.blk h.r2 (fun q => hne q.symm)
    generalize set7 W R1 (.int .i64 b.cap) (.int .i64 b.meet) v1 v2 (.int .u64 b.high) (.int .u64 b.seq) v3 = X at *
    have ho2 := set7_only X R2 (.int .u64 o.id) (.int .u64 o.left) (.int .u64 o.peak) (.int .u32 o.mem) (.int .i64 o.side) (.int .i64 o.kind) (.int .i64 o.price)
    exact ⟨ho2.blk hb1 hne, set7_blk hb2 _ _ _ _ _ _ _, key h.r1 ho1 hb2 ho2 hR.1 hR.2 (by decide) (by decide) (by decide) (by decide)⟩
  · have ho1 := set7_only W R2 (.int .u64 o.id) (.int .u64 o.left) (.int .u64 o.peak) (.int .u32 o.mem) (.int .i64 o.side) (.int .i64 o.kind) (.int .i64 o.price)
    have hb1 := set7_blk h.r2 (.int .u64 o.id) (.int .u64 o.left) (.int .u64 o.peak) (.int .u32 o.mem) (.int .i64 o.side) (.int .i64 o.kind) (.int .i64 o.price)
    have hb2 := ho1.blk h.r1 hne
    generalize set7 W R2 (.int .u64 o.id) (.int .u64 o.left) (.int .u64 o.peak) (.int .u32 o.mem) (.int .i64 o.side) (.int .i64 o.kind) (.int .i64 o.price) = X at *
    have ho2 := set7_only X R1 (.int .i64 b.cap) (.int .i64 b.meet) v1 v2 (.int .u64 b.high) (.int .u64 b.seq) v3
    exact ⟨set7_blk hb2 _ _ _ _ _ _ _, ho2.blk hb1 (fun q => hne q.symm), key h.r2 ho1 hb2 ho2 hR.2 hR.1 (by decide) (by decide) (by decide) (by decide)⟩
theorem own_eq1 {b : Bk} {l : List Ev} {o : Co} {m : Rs} {L : List Rs} (h : b.meet = 1) : stepOwn (b, l) o m L = (((tell (b, l) (evCancel o.id o.left 5)).1, (tell (b, l) (evCancel o.id o.left 5)).2), { o with left := 0 }) := by
  unfold stepOwn
  simp only
  rw [if_pos (.inl h), if_neg (by omega)]
theorem own_eq2 {b : Bk} {l : List Ev} {o : Co} {m : Rs} {L : List Rs} (h : b.meet = 2) : stepOwn (b, l) o m L = (((tell (b, l) (evCancel m.id (m.vis + m.hid) 5)).1.set (3 - o.side) (without L m.id), (tell (b, l) (evCancel m.id (m.vis + m.hid) 5)).2), o) := by
  unfold stepOwn
  simp only
  rw [if_neg (by omega), if_pos (.inl h)]
theorem own_eq3 {b : Bk} {l : List Ev} {o : Co} {m : Rs} {L : List Rs} (h : b.meet = 3) : stepOwn (b, l) o m L =
    (((tell ((tell (b, l) (evCancel m.id (m.vis + m.hid) 5)).1.set (3 - o.side) (without L m.id), (tell (b, l) (evCancel m.id (m.vis + m.hid) 5)).2) (evCancel o.id o.left 5)).1,
      (tell ((tell (b, l) (evCancel m.id (m.vis + m.hid) 5)).1.set (3 - o.side) (without L m.id), (tell (b, l) (evCancel m.id (m.vis + m.hid) 5)).2) (evCancel o.id o.left 5)).2), { o with left := 0 }) := by
  unfold stepOwn
  simp only
  rw [if_pos (.inr h), if_pos (.inr h)]
theorem trade_eq_more {b : Bk} {l : List Ev} {o : Co} {m : Rs} {L : List Rs} {q : Int} (hq : q = if m.vis < o.left then m.vis else o.left) (h : 0 < m.vis - q) : stepTrade (b, l) o m L =
    (((tell (b, l) (evTrade o m q)).1.set (3 - o.side) ({ m with vis := m.vis - q } :: without L m.id), (tell (b, l) (evTrade o m q)).2), { o with left := o.left - q }) := by
  unfold stepTrade
  simp only
  rw [← hq, if_pos h]
theorem trade_eq_gone {b : Bk} {l : List Ev} {o : Co} {m : Rs} {L : List Rs} {q : Int} (hq : q = if m.vis < o.left then m.vis else o.left) (h : ¬ (0 < m.vis - q)) (hh : ¬ (0 < m.hid)) : stepTrade (b, l) o m L =
    (((tell (b, l) (evTrade o m q)).1.set (3 - o.side) (without L m.id), (tell (b, l) (evTrade o m q)).2), { o with left := o.left - q }) := by
  unfold stepTrade
  simp only
  rw [← hq, if_neg h, if_neg hh]
theorem trade_eq_fresh {b : Bk} {l : List Ev} {o : Co} {m : Rs} {L : List Rs} {q n : Int} (hq : q = if m.vis < o.left then m.vis else o.left) (hn : n = if m.hid < m.peak then m.hid else m.peak) (h : ¬ (0 < m.vis - q)) (hh : 0 < m.hid) : stepTrade (b, l) o m L =
    (((tell ((tell (b, l) (evTrade o m q)).1, (tell (b, l) (evTrade o m q)).2) (evFresh m n)).1.set (3 - o.side) (enq (3 - o.side) { m with vis := n, hid := m.hid - n } (without L m.id)),
      (tell ((tell (b, l) (evTrade o m q)).1, (tell (b, l) (evTrade o m q)).2) (evFresh m n)).2), { o with left := o.left - q }) := by
  unfold stepTrade
  simp only
  rw [← hq, ← hn, if_neg h, if_pos hh]
/-- A box that holds one order is a row of one. -/
theorem own_one (W : World) (m : Rs) : (W.alloc (.cells m.row tR)).drew.ownsRow 0 tR 7 (.slice (some ⟨W.heap.size, 0, none⟩) 1 1) 1 m.cells :=
  ⟨rfl, .inr ⟨W.heap.size, 1, m.row, rfl, Nat.zero_le _, blk_new _ _, Nat.le_refl _, by unfold maxLen; omega, rfl, rfl⟩⟩
theorem st_drew {W w : World} {b : Bk} {l : List Ev} {v1 v2 v3 : Value} (h : LR W v1 b.buys ∧ LR W v2 b.sells ∧ LE W v3 l ∧ Only Nil w W) : LR W.drew v1 b.buys ∧ LR W.drew v2 b.sells ∧ LE W.drew v3 l ∧ Only Nil w W.drew :=
  ⟨h.1.nil (Only.refl _ _).drew, h.2.1.nil (Only.refl _ _).drew, h.2.2.1.nil (Only.refl _ _).drew, h.2.2.2.drew⟩
theorem tell_fields (b : Bk) (l : List Ev) (e : Ev) : (tell (b, l) e).1 = { b with seq := wrapU (b.seq + 1) } ∧ (tell (b, l) e).2 = l ++ [{ e with seq := wrapU (b.seq + 1) }] := ⟨rfl, rfl⟩
theorem wrapU_range (n : Int) : 0 ≤ wrapU n ∧ wrapU n < 18446744073709551616 := by unfold wrapU; omega
end Ck
end Go.Proofs.Ytcnkbhgdcfckoaa
