/- The state on the way through the document's Do. -/
import Derived.Test.YtcnkbhgdcfckoaaNl
import Derived.Test.YtcnkbhgdcfckoaaNj
set_option linter.unusedVariables false
set_option linter.unusedSimpArgs false
namespace Go.Proofs.Ytcnkbhgdcfckoaa
open Go.RowKit
namespace Ck
abbrev bk0R : Array Value := bkRow zB (.slice none 0 0) (.slice none 0 0)
/-- The boxes of the book (k) and of the command (c), the result's variable (r), what was told (t). -/
structure DoW (w : World) (T : Nat) (a : Bk) (x1 x2 : Value) (c : Cm) (b : Bk) (l : List Ev) (v1 v2 v3 : Value) (W : World) : Prop where
  k : W.heap[w.heap.size]? = some (.cells (bkRow a x1 x2) tBk (0, 0))
  c : W.heap[w.heap.size + 1]? = some (.cells (cmRow c) tCm (0, 0))
  r : W.heap[w.heap.size + 1 + 1]? = some (.cells bk0R tBk (0, 0))
  t : W.heap[T]? = some (.cells (tdRow b v1 v2 v3) tTd (0, 0))
  la : LR W x1 a.buys
  lz : LR W x2 a.sells
  lb : LR W v1 b.buys
  ls : LR W v2 b.sells
  le : LE W v3 l
  only : Only Nil w W
  new : w.heap.size ≤ T
section
variable {w W W1 : World} {T : Nat} {a : Bk} {x1 x2 : Value} {c : Cm} {b : Bk} {l : List Ev} {v1 v2 v3 : Value}
theorem DoW.nil (h : DoW w T a x1 x2 c b l v1 v2 v3 W) (ho : Only Nil W W1) : DoW w T a x1 x2 c b l v1 v2 v3 W1 :=
  ⟨ho.blk h.k (fun q => q), ho.blk h.c (fun q => q), ho.blk h.r (fun q => q), ho.blk h.t (fun q => q), h.la.nil ho, h.lz.nil ho, h.lb.nil ho, h.ls.nil ho, h.le.nil ho, h.only.trans ho (fun _ _ q => q), h.new⟩
theorem DoW.setT (h : DoW w T a x1 x2 c b l v1 v2 v3 W) {b' : Bk} {l' : List Ev} {v1' v2' v3' : Value} (h1 : LR W v1' b'.buys) (h2 : LR W v2' b'.sells) (h3 : LE W v3' l') : DoW w T a x1 x2 c b' l' v1' v2' v3' (W.setRow T (tdRow b' v1' v2' v3')) := by
  have hT : ∀ (T1 : Nat), T1 ≠ tTd → ∀ k, (fun k => k = T) k → ∃ t, Ty W k t ∧ t ≠ T1 := fun T1 hT1 k hk => ⟨tTd, hk ▸ blk_ty h.t, fun e => hT1 e.symm⟩
  exact ⟨blk_off h.k h.t (by decide) _, blk_off h.c h.t (by decide) _, blk_off h.r h.t (by decide) _, blk_setRow h.t _,
    h.la.only (only_row W _) (hT tR (by decide)), h.lz.only (only_row W _) (hT tR (by decide)), h1.only (only_row W _) (hT tR (by decide)), h2.only (only_row W _) (hT tR (by decide)), h3.only (only_row W _) (hT tEvt (by decide)), h.only.setRow (.inr h.new) _, h.new⟩
end
theorem do_begin {a : Bk} {x1 x2 : Value} {c : Cm} {w : World} :
    (((w.alloc (.cells (bkRow a x1 x2) tBk)).alloc (.cells (cmRow c) tCm)).alloc (.cells bk0R tBk)).heap[w.heap.size]? = some (.cells (bkRow a x1 x2) tBk (0, 0)) ∧
    (((w.alloc (.cells (bkRow a x1 x2) tBk)).alloc (.cells (cmRow c) tCm)).alloc (.cells bk0R tBk)).heap[w.heap.size + 1]? = some (.cells (cmRow c) tCm (0, 0)) ∧
    (((w.alloc (.cells (bkRow a x1 x2) tBk)).alloc (.cells (cmRow c) tCm)).alloc (.cells bk0R tBk)).heap[w.heap.size + 1 + 1]? = some (.cells bk0R tBk (0, 0)) ∧
    Only Nil w (((w.alloc (.cells (bkRow a x1 x2) tBk)).alloc (.cells (cmRow c) tCm)).alloc (.cells bk0R tBk)) :=
  ⟨blk_alloc (blk_alloc (blk_new _ _) _) _, blk_alloc (blk_new' _ _ _ (by simp)) _, blk_new' _ _ _ (by simp), (((Only.refl Nil w).alloc _).alloc _).alloc _⟩
end Ck
end Go.Proofs.Ytcnkbhgdcfckoaa
namespace Go.Proofs.Ytcnkbhgdcfckoaa
open Go.RowKit
namespace Ck
/-- What Do leaves. -/
def DoPost (t : Td) (w : World) (e : Ending) (w' : World) : Prop :=
  ∃ v1 v2 v3, e = .returned (.tuple #[.agg (bkRow t.1 v1 v2), v3]) ∧ LR w' v1 t.1.buys ∧ LR w' v2 t.1.sells ∧ LE w' v3 t.2 ∧ Only Nil w w'
theorem results_bk' {fn : Func} {p q : Tmp} {ty1 : TypeId} (h : fn.results = #[.cell p ty1, .tmp q]) (tmps : Array Value) (w : World) (g1 : Nat) (t1 : TypeId) (cs1 : Array Value) (d1 : TypeDesc)
    (hp : tmps.getD p undef = .pointer (some ⟨g1, 0, none⟩)) (x : Value) (hq : tmps.getD q undef = x) (hg1 : w.heap[g1]? = some (.cells cs1 t1 (0, 0)))
    (hu1 : Try.prog.underlying ty1 = some d1) (hd1 : d1.isRow = true) (hi1 : (Try.prog.info? ty1).map (·.size) = some cs1.size) :
    (results fn tmps).run Try.prog w = .ok (.tuple #[.agg cs1, x]) w := by
  have l1 := run_loadVar_row w g1 t1 ty1 cs1 (0, 0) d1 hg1 hu1 (by cases d1 <;> first | rfl | simp [TypeDesc.isRow] at hd1) hi1
  have hp' : tmps[p]?.getD undef = .pointer (some ⟨g1, 0, none⟩) := by simpa using hp
  have hq' : tmps[q]?.getD undef = x := by simpa using hq
  simp [results, h, hp', hq', asAddr, l1, Sem.run_bind, Result.andThen]
theorem results_bk {fn : Func} {p q : Tmp} (h : fn.results = #[.cell p tBk, .tmp q]) (tmps : Array Value) (w : World) (g1 : Nat) (cs1 : Array Value)
    (hp : tmps.getD p undef = .pointer (some ⟨g1, 0, none⟩)) (x : Value) (hq : tmps.getD q undef = x) (hg1 : w.heap[g1]? = some (.cells cs1 tBk (0, 0))) (hi : cs1.size = 6) :
    (results fn tmps).run Try.prog w = .ok (.tuple #[.agg cs1, x]) w := results_bk' h tmps w g1 tBk cs1 _ hp x hq hg1 Try.underlying32 rfl (by rw [hi]; exact infoBk)
theorem DoPost.drew {t : Td} {w w' : World} {e : Ending} (h : DoPost t w e w') : DoPost t w e w'.drew := by
  obtain ⟨v1, v2, v3, h0, h1, h2, h3, h4⟩ := h
  exact ⟨v1, v2, v3, h0, h1.nil (Only.refl _ _).drew, h2.nil (Only.refl _ _).drew, h3.nil (Only.refl _ _).drew, h4.drew⟩
theorem comesR_any (b : Bk) (l : List Ev) (v1 v2 v3 : Value) (o : Co) (w : World) (h1 : LR w v1 b.buys) (h2 : LR w v2 b.sells) (h3 : LE w v3 l) (hi : Iv iv0 100000 100000 (b, l) o) :
    Calls Try.prog 30 #[.agg (tdRow b v1 v2 v3), .agg (coRow o)] w (TdPost (comesR (b, l) o) w) := by
  by_cases hgo : o.kind = 4 ∧ wholeR b o = false
  · exact comes_fill b l v1 v2 v3 o w h1 h2 h3 hi hgo.1 hgo.2
  · exact comes_on b l v1 v2 v3 o w h1 h2 h3 hi hgo
theorem set6_blk6 {W : World} {g : Nat} {t : TypeId} {a0 a1 a2 a3 a4 a5 : Value} (h : W.heap[g]? = some (.cells #[a0, a1, a2, a3, a4, a5] t (0, 0))) (u0 u1 u2 u3 u4 u5 : Value) : (set6 W g u0 u1 u2 u3 u4 u5).heap[g]? = some (.cells #[u0, u1, u2, u3, u4, u5] t (0, 0)) := by
  have h1 : (W.setCell ⟨g, 0, none⟩ u0).heap[g]? = some (.cells #[u0, a1, a2, a3, a4, a5] t (0, 0)) := blk_set h 0 u0
  have h2 := blk_set h1 1 u1
  have h3 := blk_set h2 2 u2
  have h4 := blk_set h3 3 u3
  have h5 := blk_set h4 4 u4
  exact blk_set h5 5 u5
section
variable {w W W1 : World} {T : Nat} {a : Bk} {x1 x2 : Value} {c : Cm} {b : Bk} {l : List Ev} {v1 v2 v3 : Value}
/-- The end: the book is stored in the result's variable, and the list handed back. -/
theorem DoW.ret (h : DoW w T a x1 x2 c b l v1 v2 v3 W) (hT : T ≠ w.heap.size + 1 + 1) :
    (set6 W (w.heap.size + 1 + 1) (.int .i64 b.cap) (.int .i64 b.meet) v1 v2 (.int .u64 b.high) (.int .u64 b.seq)).heap[w.heap.size + 1 + 1]? = some (.cells (bkRow b v1 v2) tBk (0, 0)) ∧
    DoPost (b, l) w (.returned (.tuple #[.agg (bkRow b v1 v2), v3])) (set6 W (w.heap.size + 1 + 1) (.int .i64 b.cap) (.int .i64 b.meet) v1 v2 (.int .u64 b.high) (.int .u64 b.seq)) := by
  have ho := set6_only W (w.heap.size + 1 + 1) (.int .i64 b.cap) (.int .i64 b.meet) v1 v2 (.int .u64 b.high) (.int .u64 b.seq)
  have hR : ∀ (T1 : Nat), tBk ≠ T1 → ∀ k, (fun k => k = w.heap.size + 1 + 1) k → ∃ t, Ty W k t ∧ t ≠ T1 := fun T1 hT1 k hk => ⟨tBk, hk ▸ blk_ty h.r, hT1⟩
  refine ⟨set6_blk6 h.r _ _ _ _ _ _, v1, v2, v3, rfl, h.lb.only ho (hR tR (by decide)), h.ls.only ho (hR tR (by decide)), h.le.only ho (hR tEvt (by decide)), h.only.trans ho (fun k hk q => by omega)⟩
/-- A store into an event's box, while nothing is told yet. -/
theorem DoW.evt (h : DoW w T a x1 x2 c b [] v1 v2 (.slice none 0 0) W) {E i : Nat} {cs : Array Value} {u : Value} (hE : W.heap[E]? = some (.cells cs tEvt (0, 0))) (hn : w.heap.size ≤ E) : DoW w T a x1 x2 c b [] v1 v2 (.slice none 0 0) (W.setCell ⟨E, i, none⟩ u) := by
  have ho : Only (fun k => k = E) W (W.setCell ⟨E, i, none⟩ u) := (Only.refl (fun k => k = E) W).setCell (p := ⟨E, i, none⟩) (.inl rfl) u
  have hT : ∀ k, (fun k => k = E) k → ∃ t, Ty W k t ∧ t ≠ tR := fun k hk => ⟨tEvt, hk ▸ blk_ty hE, by decide⟩
  exact ⟨ho.blk h.k (fun q => blk_ne h.k hE (by decide) q), ho.blk h.c (fun q => blk_ne h.c hE (by decide) q), ho.blk h.r (fun q => blk_ne h.r hE (by decide) q), ho.blk h.t (fun q => blk_ne h.t hE (by decide) q),
    h.la.only ho hT, h.lz.only ho hT, h.lb.only ho hT, h.ls.only ho hT, Lst.empty none 0 (by omega), h.only.setCell (p := ⟨E, i, none⟩) (.inr hn) _, h.new⟩
/-- A store into a box of another type than the lists'. -/
theorem DoW.far (h : DoW w T a x1 x2 c b l v1 v2 v3 W) {E i : Nat} {cs : Array Value} {t : TypeId} {u : Value} (hE : W.heap[E]? = some (.cells cs t (0, 0))) (hn : w.heap.size ≤ E) (h1 : t ≠ tR) (h2 : t ≠ tEvt) (h3 : t ≠ tBk) (h4 : t ≠ tCm) (h5 : t ≠ tTd) : DoW w T a x1 x2 c b l v1 v2 v3 (W.setCell ⟨E, i, none⟩ u) := by
  have ho : Only (fun k => k = E) W (W.setCell ⟨E, i, none⟩ u) := (Only.refl (fun k => k = E) W).setCell (p := ⟨E, i, none⟩) (.inl rfl) u
  have hT : ∀ (T1 : Nat), t ≠ T1 → ∀ k, (fun k => k = E) k → ∃ t, Ty W k t ∧ t ≠ T1 := fun T1 hT1 k hk => ⟨t, hk ▸ blk_ty hE, hT1⟩
  exact ⟨ho.blk h.k (fun q => blk_ne h.k hE (fun e => h3 e.symm) q), ho.blk h.c (fun q => blk_ne h.c hE (fun e => h4 e.symm) q), ho.blk h.r (fun q => blk_ne h.r hE (fun e => h3 e.symm) q), ho.blk h.t (fun q => blk_ne h.t hE (fun e => h5 e.symm) q),
    h.la.only ho (hT tR h1), h.lz.only ho (hT tR h1), h.lb.only ho (hT tR h1), h.ls.only ho (hT tR h1), h.le.only ho (hT tEvt h2), h.only.setCell (p := ⟨E, i, none⟩) (.inr hn) _, h.new⟩
/-- The book's High is another. -/
theorem DoW.setH (h : DoW w T a x1 x2 c b l v1 v2 v3 W) (n : Int) : DoW w T a x1 x2 c { b with high := n } l v1 v2 v3 (W.setCell ⟨T, 4, none⟩ (.int .u64 n)) := by
  have ho : Only (fun k => k = T) W (W.setCell ⟨T, 4, none⟩ (.int .u64 n)) := (Only.refl (fun k => k = T) W).setCell (p := ⟨T, 4, none⟩) (.inl rfl) _
  have hT : ∀ (T1 : Nat), tTd ≠ T1 → ∀ k, (fun k => k = T) k → ∃ t, Ty W k t ∧ t ≠ T1 := fun T1 hT1 k hk => ⟨tTd, hk ▸ blk_ty h.t, hT1⟩
  exact ⟨ho.blk h.k (fun q => blk_ne h.k h.t (by decide) q), ho.blk h.c (fun q => blk_ne h.c h.t (by decide) q), ho.blk h.r (fun q => blk_ne h.r h.t (by decide) q), blk_set h.t 4 _,
    h.la.only ho (hT tR (by decide)), h.lz.only ho (hT tR (by decide)), h.lb.only ho (hT tR (by decide)), h.ls.only ho (hT tR (by decide)), h.le.only ho (hT tEvt (by decide)), h.only.setCell (p := ⟨T, 4, none⟩) (.inr h.new) _, h.new⟩
/-- The book in the box of what was told is another, stored cell by cell. -/
theorem DoW.setB (h : DoW w T a x1 x2 c b l v1 v2 v3 W) {b' : Bk} {x y : Value} (h1 : LR W x b'.buys) (h2 : LR W y b'.sells) :
    DoW w T a x1 x2 c b' l x y v3 (set6 W T (.int .i64 b'.cap) (.int .i64 b'.meet) x y (.int .u64 b'.high) (.int .u64 b'.seq)) := by
  have ho := set6_only W T (.int .i64 b'.cap) (.int .i64 b'.meet) x y (.int .u64 b'.high) (.int .u64 b'.seq)
  have hT : ∀ (T1 : Nat), tTd ≠ T1 → ∀ k, (fun k => k = T) k → ∃ t, Ty W k t ∧ t ≠ T1 := fun T1 hT1 k hk => ⟨tTd, hk ▸ blk_ty h.t, hT1⟩
  exact ⟨ho.blk h.k (fun q => blk_ne h.k h.t (by decide) q), ho.blk h.c (fun q => blk_ne h.c h.t (by decide) q), ho.blk h.r (fun q => blk_ne h.r h.t (by decide) q), set6_blk h.t _ _ _ _ _ _,
    h.la.only ho (hT tR (by decide)), h.lz.only ho (hT tR (by decide)), h1.only ho (hT tR (by decide)), h2.only ho (hT tR (by decide)), h.le.only ho (hT tEvt (by decide)), h.only.trans ho (fun k hk q => by have := h.new; omega), h.new⟩
end
end Ck
end Go.Proofs.Ytcnkbhgdcfckoaa
namespace Go.Proofs.Ytcnkbhgdcfckoaa
open Go.RowKit
namespace Ck
theorem rej_ways (c : Cm) (code : Int) : ((c.kind == 2) = true ∧ (c.kind == 1) = false ∧ evReject c code = { zE with kind := 2, id := 0, target := c.target, code := code }) ∨ ((c.kind == 2) = false ∧ (c.kind == 1) = true ∧ evReject c code = { zE with kind := 2, id := c.id, target := 0, code := code }) ∨
    ((c.kind == 2) = false ∧ (c.kind == 1) = false ∧ evReject c code = { zE with kind := 2, id := c.id, target := c.target, code := code }) := by
  unfold evReject
  by_cases h2 : c.kind = 2
  · exact .inl ⟨by simp [h2], by simp [h2], by rw [if_pos h2, if_neg (by omega)]⟩
  · by_cases h1 : c.kind = 1
    · exact .inr (.inl ⟨by simp [h2], by simp [h1], by rw [if_neg h2, if_pos h1]⟩)
    · exact .inr (.inr ⟨by simp [h2], by simp [h1], by rw [if_neg h2, if_neg h1]⟩)
set_option maxHeartbeats 3200000 in
set_option maxRecDepth 100000 in
theorem do_refused (a : Bk) (x1 x2 : Value) (c : Cm) (w : World) (h1 : LR w x1 a.buys) (h2 : LR w x2 a.sells) (hw : c.wf) (hn1 : a.buys.length ≤ 90000) (hn2 : a.sells.length ≤ 90000) (hok : OkB a) (hq : 0 ≤ a.seq ∧ a.seq < 18446744073709551616) (hm : a.meet = 0 ∨ a.meet = 1 ∨ a.meet = 2 ∨ a.meet = 3) (hr : refusedR a c ≠ 0) :
    Calls Try.prog 9 #[.agg (bkRow a x1 x2), .agg (cmRow c)] w (DoPost (doR a c) w) := by
  have HCp := Lib.hid (fun W (ho : Only Nil w W) => copy_any a x1 x2 W (h1.nil ho) (h2.nil ho) (by omega) (by omega))
  have HRf := Lib.hid (fun W (ho : Only Nil w W) => refusedR_any a x1 x2 c W (h1.nil ho) (h2.nil ho) hw (by omega) (by omega))
  have HE : Hid (doR a c = tell (a, []) (evReject c (refusedR a c))) := Lib.hid (by unfold doR; rw [if_pos hr])
  have hrb : (refusedR a c != 0) = true := by simp [hr]
  clear hr hm hok hw
  have HL1 := Lib.hid h1
  have HL2 := Lib.hid h2
  have HQ := Lib.hid hq
  obtain ⟨A1, c1, rfl, q1, q2⟩ := h1.sl
  obtain ⟨A2, c2, rfl, q3, q4⟩ := h2.sl
  clear q1 q2 q3 q4 h1 h2 hn1 hn2 hq
  obtain ⟨hb1, hb2, hb3, hb4⟩ := do_begin (a := a) (x1 := (.slice A1 a.buys.length c1)) (x2 := (.slice A2 a.sells.length c2)) (c := c) (w := w)
  have HK0 := Lib.hid hb1
  have HC0 := Lib.hid hb2
  have HR0 := Lib.hid hb3
  have HO0 := Lib.hid hb4
  clear hb1 hb2 hb3 hb4
  go_enter Try.func9, Try.ntmps9
  go_upto_region 1 with fail
  generalize hW : World.alloc (World.alloc (World.alloc w _) _) _ = W0
  have hW' : (((w.alloc (.cells (bkRow a (.slice A1 a.buys.length c1) (.slice A2 a.sells.length c2)) tBk)).alloc (.cells (cmRow c) tCm)).alloc (.cells bk0R tBk)) = W0 := hW
  rw [hW'] at HK0 HC0 HR0 HO0
  clear hW hW'
  obtain ⟨b0, b1, b2, b3, b4, b5, bf, bl⟩ := blk_cellsof HK0.out
  go_wp2_with fail
  refine (HCp.out _ HO0.out).mono ?_
  rintro e w1 ⟨⟨v1, v2, rfl, hv1, hv2⟩, ho⟩
  obtain ⟨B1, m1, d1, rfl⟩ := hv1.isSl
  obtain ⟨B2, m2, d2, rfl⟩ := hv2.isSl
  have HK1 := Lib.hid (ho.blk HK0.out (fun q => q))
  have HC1 := Lib.hid (ho.blk HC0.out (fun q => q))
  have HR1 := Lib.hid (ho.blk HR0.out (fun q => q))
  have HO1 := Lib.hid (HO0.out.trans (S := Nil) ho (fun _ _ q => q))
  have Hv1 := Lib.hid hv1
  have Hv2 := Lib.hid hv2
  clear ho HK0 HC0 HR0 HO0 hv1 hv2 HCp b0 b1 b2 b3 b4 b5 bf bl
  have hbld := build_td a B1 m1 d1 B2 m2 d2
  unfold bkRow
  go_upto_region 2 with fail
  generalize hW : World.alloc w1 _ = W2
  have hW' : w1.alloc (.cells (tdRow a (.slice B1 m1 d1) (.slice B2 m2 d2) (.slice none 0 0)) tTd) = W2 := hW
  have ho2 : Only Nil w1 W2 := by rw [← hW']; exact (Only.refl _ _).alloc _
  have HT0 : Hid (W2.heap[w1.heap.size]? = some (.cells (tdRow a (.slice B1 m1 d1) (.slice B2 m2 d2) (.slice none 0 0)) tTd (0, 0))) := Lib.hid (by rw [← hW']; exact blk_new _ _)
  have HTn := Lib.hid HO1.out.size
  have HV : Hid (DoW w w1.heap.size a (.slice A1 a.buys.length c1) (.slice A2 a.sells.length c2) c a [] (.slice B1 m1 d1) (.slice B2 m2 d2) (.slice none 0 0) W2) := Lib.hid ⟨ho2.blk HK1.out (fun q => q), ho2.blk HC1.out (fun q => q), ho2.blk HR1.out (fun q => q), HT0.out,
    (HL1.out.nil HO1.out).nil ho2, (HL2.out.nil HO1.out).nil ho2, Hv1.out.nil ho2, Hv2.out.nil ho2, Lst.empty none 0 (by omega), HO1.out.trans ho2 (fun _ _ q => q), HTn.out⟩
  have hTr : w1.heap.size ≠ w.heap.size + 1 + 1 := by have := blk_lt HR1.out; omega
  clear hW hW' ho2 HT0 HTn HK1 HC1 HR1 HO1 Hv1 Hv2 HL1 HL2 hbld
  generalize w1.heap.size = T at *
  obtain ⟨b0, b1, b2, b3, b4, b5, bf, bl⟩ := blk_cellsof HV.out.k
  obtain ⟨d0, d1', d2', d3, d4, d5, d6, d7, d8, df, dl⟩ := cm_cells HV.out.c
  go_wp2_with fail
  refine (HRf.out _ HV.out.only).mono ?_
  rintro e w2 ⟨rfl, ho⟩
  have HV2 := Lib.hid (HV.out.nil ho)
  clear ho HV HRf b0 b1 b2 b3 b4 b5 bf bl d0 d1' d2' d3 d4 d5 d6 d7 d8 df dl
  have HV := HV2
  clear HV2
  obtain ⟨b0, b1, b2, b3, b4, b5, bf, bl⟩ := blk_cellsof HV.out.k
  obtain ⟨d0, d1', d2', d3, d4, d5, d6, d7, d8, df, dl⟩ := cm_cells HV.out.c
  obtain ⟨t0, t1, t2, t3, t4, t5, t6, tf, tl⟩ := td_cells HV.out.t
  generalize refusedR a c = code at *
  have HT := Lib.hid (fun W (q1 : LR W (.slice B1 m1 d1) a.buys) (q2 : LR W (.slice B2 m2 d2) a.sells) => tellR_any a [] (evReject c code) (.slice B1 m1 d1) (.slice B2 m2 d2) (.slice none 0 0) W q1 q2 (Lst.empty none 0 (by omega)) (by simp) HQ.out)
  go_upto_region 5 with fail
  generalize hW : World.alloc w2 _ = W3
  have hW' : w2.alloc (.cells ({ zE with kind := 2, id := c.id, target := c.target, code := code } : Ev).row tEvt) = W3 := hW
  have ho3 : Only Nil w2 W3 := by rw [← hW']; exact (Only.refl _ _).alloc _
  have HX0 : Hid (W3.heap[w2.heap.size]? = some (.cells ({ zE with kind := 2, id := c.id, target := c.target, code := code } : Ev).row tEvt (0, 0))) := Lib.hid (by rw [← hW']; exact blk_new _ _)
  have HXn := Lib.hid HV.out.only.size
  have HV3 := Lib.hid (HV.out.nil ho3)
  have HO3 := Lib.hid ho3
  clear hW hW' ho3 HV b0 b1 b2 b3 b4 b5 bf bl d0 d1' d2' d3 d4 d5 d6 d7 d8 df dl t0 t1 t2 t3 t4 t5 t6 tf tl
  generalize w2.heap.size = E at *
  obtain ⟨d0, d1', d2', d3, d4, d5, d6, d7, d8, df, dl⟩ := cm_cells HV3.out.c
  obtain ⟨e0, e1, e2, e3, e4, e5, e6, e7, e8, e9, e10, e11, e12, ef, el⟩ := evt_cells HX0.out
  have hwy := rej_ways c code
  have hEn := HXn.out
  rcases hwy with ⟨k1, k2, k3⟩ | ⟨k1, k2, k3⟩ | ⟨k1, k2, k3⟩
  · have HK3 := Lib.hid k3
    clear k3
    go_upto_region 9 with fail
    generalize hW : World.setCell W3 _ _ = W4
    have hW' : W3.setCell ⟨E, 2, none⟩ (.int .u64 0) = W4 := hW
    have HV4 : Hid (DoW w T a (.slice A1 a.buys.length c1) (.slice A2 a.sells.length c2) c a [] (.slice B1 m1 d1) (.slice B2 m2 d2) (.slice none 0 0) W4) := Lib.hid (by rw [← hW']; exact HV3.out.evt HX0.out hEn)
    have HX4 : Hid (W4.heap[E]? = some (.cells (evReject c code).row tEvt (0, 0))) := Lib.hid (by rw [← hW', HK3.out]; exact blk_set HX0.out 2 _)
    clear hW hW' HV3 HX0 HXn HO3 d0 d1' d2' d3 d4 d5 d6 d7 d8 df dl e0 e1 e2 e3 e4 e5 e6 e7 e8 e9 e10 e11 e12 ef el k1 k2
    obtain ⟨t0, t1, t2, t3, t4, t5, t6, tf, tl⟩ := td_cells HV4.out.t
    obtain ⟨e0, e1, e2, e3, e4, e5, e6, e7, e8, e9, e10, e11, e12, ef, el⟩ := evt_cells HX4.out
    generalize evReject c code = ev at *
    go_wp2_with fail
    refine (HT.out _ HV4.out.lb HV4.out.ls).mono ?_
    rintro e w5 ⟨x1', x2', x3', rfl, hx1, hx2, hx3, ho⟩
    obtain ⟨Y1, p1, f1, rfl⟩ := hx1.isSl
    obtain ⟨Y2, p2, f2, rfl⟩ := hx2.isSl
    obtain ⟨Y3, p3, f3, rfl⟩ := hx3.isSl
    have HVa := Lib.hid (HV4.out.nil ho)
    have HVb := Lib.hid (HVa.out.setT hx1 hx2 hx3)
    clear ho HV4 HX4 HT hx1 hx2 hx3 t0 t1 t2 t3 t4 t5 t6 tf tl e0 e1 e2 e3 e4 e5 e6 e7 e8 e9 e10 e11 e12 ef el hEn
    generalize tell (a, []) ev = tq at *
    obtain ⟨bq, lq⟩ := tq
    simp only at HVb
    go_upto_region 10 with (refine wpList_store_row rfl tTd (.tmp 6) (.tmp 38) rfl _ rfl (tdRow bq (.slice Y1 p1 f1) (.slice Y2 p2 f2) (.slice Y3 p3 f3)) _ rfl _ HVa.out.t infoTd rfl (one_td _ ⟨_, _, _, rfl⟩ ⟨_, _, _, rfl⟩ ⟨_, _, _, rfl⟩) ?_)
    generalize hW : World.setRow _ _ _ = W6
    have hW' : w5.setRow T (tdRow bq (.slice Y1 p1 f1) (.slice Y2 p2 f2) (.slice Y3 p3 f3)) = W6 := hW
    rw [hW'] at HVb
    clear hW hW' HVa
    have HV := HVb
    clear HVb
    obtain ⟨t0, t1, t2, t3, t4, t5, t6, tf, tl⟩ := td_cells HV.out.t
    obtain ⟨r0, r1, r2, r3, r4, r5, rf, rl⟩ := blk_cellsof (b := zB) HV.out.r
    have hTr' : w.heap.size + 1 + 1 ≠ T := fun q => hTr q.symm
    obtain ⟨hr1, hr2⟩ := HV.out.ret hTr
    have HR1 := Lib.hid hr1
    have HR2 := Lib.hid hr2
    clear hr1 hr2
    go_region
    all_goals
      go_wp2
      refine bodyPost_ret (results_bk rfl _ _ (w.heap.size + 1 + 1) _ rfl _ rfl (blk_drew HR1.out) rfl) rfl ?_
      rw [HE.out]
      exact HR2.out.drew
  · have HK3 := Lib.hid k3
    clear k3
    go_upto_region 9 with fail
    generalize hW : World.setCell W3 _ _ = W4
    have hW' : W3.setCell ⟨E, 4, none⟩ (.int .u64 0) = W4 := hW
    have HV4 : Hid (DoW w T a (.slice A1 a.buys.length c1) (.slice A2 a.sells.length c2) c a [] (.slice B1 m1 d1) (.slice B2 m2 d2) (.slice none 0 0) W4) := Lib.hid (by rw [← hW']; exact HV3.out.evt HX0.out hEn)
    have HX4 : Hid (W4.heap[E]? = some (.cells (evReject c code).row tEvt (0, 0))) := Lib.hid (by rw [← hW', HK3.out]; exact blk_set HX0.out 4 _)
    clear hW hW' HV3 HX0 HXn HO3 d0 d1' d2' d3 d4 d5 d6 d7 d8 df dl e0 e1 e2 e3 e4 e5 e6 e7 e8 e9 e10 e11 e12 ef el k1 k2
    obtain ⟨t0, t1, t2, t3, t4, t5, t6, tf, tl⟩ := td_cells HV4.out.t
    obtain ⟨e0, e1, e2, e3, e4, e5, e6, e7, e8, e9, e10, e11, e12, ef, el⟩ := evt_cells HX4.out
    generalize evReject c code = ev at *
    go_wp2_with fail
    refine (HT.out _ HV4.out.lb HV4.out.ls).mono ?_
    rintro e w5 ⟨x1', x2', x3', rfl, hx1, hx2, hx3, ho⟩
    obtain ⟨Y1, p1, f1, rfl⟩ := hx1.isSl
    obtain ⟨Y2, p2, f2, rfl⟩ := hx2.isSl
    obtain ⟨Y3, p3, f3, rfl⟩ := hx3.isSl
    have HVa := Lib.hid (HV4.out.nil ho)
    have HVb := Lib.hid (HVa.out.setT hx1 hx2 hx3)
    clear ho HV4 HX4 HT hx1 hx2 hx3 t0 t1 t2 t3 t4 t5 t6 tf tl e0 e1 e2 e3 e4 e5 e6 e7 e8 e9 e10 e11 e12 ef el hEn
    generalize tell (a, []) ev = tq at *
    obtain ⟨bq, lq⟩ := tq
    simp only at HVb
    go_upto_region 10 with (refine wpList_store_row rfl tTd (.tmp 6) (.tmp 38) rfl _ rfl (tdRow bq (.slice Y1 p1 f1) (.slice Y2 p2 f2) (.slice Y3 p3 f3)) _ rfl _ HVa.out.t infoTd rfl (one_td _ ⟨_, _, _, rfl⟩ ⟨_, _, _, rfl⟩ ⟨_, _, _, rfl⟩) ?_)
    generalize hW : World.setRow _ _ _ = W6
    have hW' : w5.setRow T (tdRow bq (.slice Y1 p1 f1) (.slice Y2 p2 f2) (.slice Y3 p3 f3)) = W6 := hW
    rw [hW'] at HVb
    clear hW hW' HVa
    have HV := HVb
    clear HVb
    obtain ⟨t0, t1, t2, t3, t4, t5, t6, tf, tl⟩ := td_cells HV.out.t
    obtain ⟨r0, r1, r2, r3, r4, r5, rf, rl⟩ := blk_cellsof (b := zB) HV.out.r
    have hTr' : w.heap.size + 1 + 1 ≠ T := fun q => hTr q.symm
    obtain ⟨hr1, hr2⟩ := HV.out.ret hTr
    have HR1 := Lib.hid hr1
    have HR2 := Lib.hid hr2
    clear hr1 hr2
    go_region
    all_goals
      go_wp2
      refine bodyPost_ret (results_bk rfl _ _ (w.heap.size + 1 + 1) _ rfl _ rfl (blk_drew HR1.out) rfl) rfl ?_
      rw [HE.out]
      exact HR2.out.drew
  · have HK3 := Lib.hid k3
    clear k3
    go_upto_region 9 with fail
    have HV4 := HV3
    have HX4 : Hid (W3.heap[E]? = some (.cells (evReject c code).row tEvt (0, 0))) := Lib.hid (by rw [HK3.out]; exact HX0.out)
    have hW : True := trivial
    have hW' : True := trivial
    generalize W3 = W4 at *
    clear hW hW' HV3 HX0 HXn HO3 d0 d1' d2' d3 d4 d5 d6 d7 d8 df dl e0 e1 e2 e3 e4 e5 e6 e7 e8 e9 e10 e11 e12 ef el k1 k2
    obtain ⟨t0, t1, t2, t3, t4, t5, t6, tf, tl⟩ := td_cells HV4.out.t
    obtain ⟨e0, e1, e2, e3, e4, e5, e6, e7, e8, e9, e10, e11, e12, ef, el⟩ := evt_cells HX4.out
    generalize evReject c code = ev at *
    go_wp2_with fail
    refine (HT.out _ HV4.out.lb HV4.out.ls).mono ?_
    rintro e w5 ⟨x1', x2', x3', rfl, hx1, hx2, hx3, ho⟩
    obtain ⟨Y1, p1, f1, rfl⟩ := hx1.isSl
    obtain ⟨Y2, p2, f2, rfl⟩ := hx2.isSl
    obtain ⟨Y3, p3, f3, rfl⟩ := hx3.isSl
    have HVa := Lib.hid (HV4.out.nil ho)
    have HVb := Lib.hid (HVa.out.setT hx1 hx2 hx3)
    clear ho HV4 HX4 HT hx1 hx2 hx3 t0 t1 t2 t3 t4 t5 t6 tf tl e0 e1 e2 e3 e4 e5 e6 e7 e8 e9 e10 e11 e12 ef el hEn
    generalize tell (a, []) ev = tq at *
    obtain ⟨bq, lq⟩ := tq
    simp only at HVb
    go_upto_region 10 with (refine wpList_store_row rfl tTd (.tmp 6) (.tmp 38) rfl _ rfl (tdRow bq (.slice Y1 p1 f1) (.slice Y2 p2 f2) (.slice Y3 p3 f3)) _ rfl _ HVa.out.t infoTd rfl (one_td _ ⟨_, _, _, rfl⟩ ⟨_, _, _, rfl⟩ ⟨_, _, _, rfl⟩) ?_)
    generalize hW : World.setRow _ _ _ = W6
    have hW' : w5.setRow T (tdRow bq (.slice Y1 p1 f1) (.slice Y2 p2 f2) (.slice Y3 p3 f3)) = W6 := hW
    rw [hW'] at HVb
    clear hW hW' HVa
    have HV := HVb
    clear HVb
    obtain ⟨t0, t1, t2, t3, t4, t5, t6, tf, tl⟩ := td_cells HV.out.t
    obtain ⟨r0, r1, r2, r3, r4, r5, rf, rl⟩ := blk_cellsof (b := zB) HV.out.r
    have hTr' : w.heap.size + 1 + 1 ≠ T := fun q => hTr q.symm
    obtain ⟨hr1, hr2⟩ := HV.out.ret hTr
    have HR1 := Lib.hid hr1
    have HR2 := Lib.hid hr2
    clear hr1 hr2
    go_region
    all_goals
      go_wp2
      refine bodyPost_ret (results_bk rfl _ _ (w.heap.size + 1 + 1) _ rfl _ rfl (blk_drew HR1.out) rfl) rfl ?_
      rw [HE.out]
      exact HR2.out.drew
end Ck
end Go.Proofs.Ytcnkbhgdcfckoaa
