/- The checker's state upon the heap; the walk of Add. -/
import Derived.Test.YtcnkbhgdcfckoaaMs
import Derived.Test.YtcnkbhgdcfckoaaMt
set_option linter.unusedVariables false
set_option linter.unusedSimpArgs false
namespace Go.Proofs.Ytcnkbhgdcfckoaa
open Go.RowKit
namespace Ck
structure PkAt (w : World) (C : Nat) (x : Pk) (v1 v2 p6 p7 : Value) : Prop where
  rep : BkRep w C x.b v1 v2 p6 p7
  now : NowIs w x.now p6
  ins : InsIs w x.ins p7
/-- The blocks that an Add may change. -/
def Hers (C : Nat) (v1 v2 p6 : Value) (k : Nat) : Prop := Mine C v1 v2 k ∨ p6 = .pointer (some ⟨k, 0, none⟩)
def NewP (w : World) (p6 p6' : Value) : Prop := p6' = p6 ∨ p6' = .pointer none ∨ ∃ G, p6' = .pointer (some ⟨G, 0, none⟩) ∧ w.heap.size ≤ G
def AddPost (C : Nat) (x' : Pk) (v1 v2 p6 : Value) (w w' : World) : Prop :=
  ∃ v1' v2' p6' p7', PkAt w' C x' v1' v2' p6' p7' ∧ Fresh w C v1 v2 v1' v2' ∧ NewP w p6 p6' ∧ Only (Hers C v1 v2 p6) w w'
def Fin (C : Nat) (e : Ev) (code : Int) (x' : Pk) (v1 v2 p6 : Value) (w : World) (r : Ending) (w' : World) : Prop :=
  r = .returned (.int .i64 code) ∧ AddPost C (if code = 0 then { x' with b := { x'.b with seq := e.seq } } else x') v1 v2 p6 w w'
theorem NowIs.nil {w w1 : World} {now : Option Cg} {p : Value} (h : NowIs w now p) (ho : Only Nil w w1) : NowIs w1 now p := by
  rcases h with h | ⟨c, G, h1, h2, h3⟩
  · exact .inl h
  · exact .inr ⟨c, G, h1, h2, h3.nil ho⟩
theorem InsIs.nil {w w1 : World} {ins : Option (Int × Int × Int)} {p : Value} (h : InsIs w ins p) (ho : Only Nil w w1) : InsIs w1 ins p := by
  rcases h with h | ⟨m, s, k, H, h1, h2, h3⟩
  · exact .inl h
  · exact .inr ⟨m, s, k, H, h1, h2, ho.blk h3 (fun q => q)⟩
theorem PkAt.nil {w w1 : World} {C : Nat} {x : Pk} {v1 v2 p6 p7 : Value} (h : PkAt w C x v1 v2 p6 p7) (ho : Only Nil w w1) : PkAt w1 C x v1 v2 p6 p7 := ⟨h.rep.nil ho, h.now.nil ho, h.ins.nil ho⟩
theorem PkAt.seq {w : World} {C : Nat} {x : Pk} {v1 v2 p6 p7 : Value} (h : PkAt w C x v1 v2 p6 p7) (s : Int) : PkAt (w.setCell ⟨C, 5, none⟩ (.int .u64 s)) C { x with b := { x.b with seq := s } } v1 v2 p6 p7 := by
  refine ⟨h.rep.set5 s, ?_, ?_⟩
  · rcases h.now with q | ⟨c, G, h1, h2, h3⟩
    · exact .inl q
    · exact .inr ⟨c, G, h1, h2, h3.farC h.rep _ _⟩
  · rcases h.ins with q | ⟨m, s, k, H, h1, h2, h3⟩
    · exact .inl q
    · exact .inr ⟨m, s, k, H, h1, h2, blk_far h3 (blk_ne h3 h.rep.blk (by decide)) _⟩
theorem same_post {w w' : World} {C : Nat} {x : Pk} {v1 v2 p6 p7 : Value} (h : PkAt w C x v1 v2 p6 p7) (ho : Only Nil w w') : AddPost C x v1 v2 p6 w w' :=
  ⟨v1, v2, p6, p7, h.nil ho, fun _ q => .inl q, .inl rfl, ho.mono (fun _ _ q => q.elim)⟩
theorem fin_no {w w' : World} {C : Nat} {x' : Pk} {e : Ev} {code : Int} {v1 v2 p6 : Value} (h : AddPost C x' v1 v2 p6 w w') (hc : code ≠ 0) : Fin C e code x' v1 v2 p6 w (.returned (.int .i64 code)) w' := ⟨rfl, by rw [if_neg hc]; exact h⟩
theorem fin_yes {w w' : World} {C : Nat} {x' : Pk} {e : Ev} {code : Int} {v1 v2 p6 u1 u2 u6 u7 : Value} (hp : PkAt w' C x' u1 u2 u6 u7) (hfr : Fresh w C v1 v2 u1 u2) (hnp : NewP w p6 u6) (ho : Only (Hers C v1 v2 p6) w w') (hc : code = 0) :
    Fin C e code x' v1 v2 p6 w (.returned (.int .i64 code)) (w'.setCell ⟨C, 5, none⟩ (.int .u64 e.seq)) :=
  ⟨rfl, by rw [if_pos hc]; exact ⟨u1, u2, u6, u7, hp.seq _, hfr, hnp, ho.setCell (p := ⟨C, 5, none⟩) (.inl (.inl (.inl rfl))) _⟩⟩
/-- The blocks of the checker are older than what is new. -/
theorem hers_lt {w : World} {C : Nat} {x : Pk} {v1 v2 p6 p7 : Value} (h : PkAt w C x v1 v2 p6 p7) {k : Nat} (hk : Hers C v1 v2 p6 k) : k < w.heap.size := by
  rcases hk with (hk | hk | hk) | hk
  · exact hk ▸ blk_lt h.rep.blk
  · exact own_lt h.rep.r1 hk
  · exact own_lt h.rep.r2 hk
  · rcases h.now with ⟨_, q⟩ | ⟨c, G, _, q, h3⟩
    · rw [q] at hk; cases hk
    · rw [q] at hk
      injection hk with hk
      injection hk with hk
      injection hk with hk
      exact hk ▸ blk_lt h3
set_option maxHeartbeats 1600000 in
set_option maxRecDepth 100000 in
theorem add_seq (C : Nat) (x : Pk) (e : Ev) (v1 v2 p6 p7 : Value) (w : World) (h : PkAt w C x v1 v2 p6 p7) (hs : (e.seq != IntKind.u64.wrap (x.b.seq + 1)) = true) :
    Calls Try.prog 13 #[.pointer (some ⟨C, 0, none⟩), .agg e.row] w (Fin C e 190 x v1 v2 p6 w) := by
  have HX := Lib.hid h
  have HE0 := Lib.hid (blk_new w (.cells e.row tEvt))
  have HO0 := Lib.hid ((Only.refl Nil w).alloc (.cells e.row tEvt))
  clear h
  go_enter Try.func13, Try.ntmps13
  unfold Ev.row
  go_upto_region 1 with fail
  generalize hW : World.alloc w _ = W1
  have hW' : w.alloc (.cells e.row tEvt) = W1 := hW
  rw [hW'] at HE0 HO0
  clear hW hW'
  have HP0 := Lib.hid (HX.out.nil HO0.out)
  obtain ⟨e0, e1, e2, e3, e4, e5, e6, e7, e8, e9, e10, e11, e12, ef, el⟩ := ev_cells HE0.out
  have c5 := blk_cell HP0.out.rep.blk 5
  have c6 := blk_cell HP0.out.rep.blk 6
  have c7 := blk_cell HP0.out.rep.blk 7
  have cl := blk_lt HP0.out.rep.blk
  simp only [List.getElem?_toArray, List.getElem?_cons_zero, List.getElem?_cons_succ] at c5 c6 c7
  go_quiet (fail)
  have HO1 := Lib.hid (HO0.out.drewN nq)
  have HP1 := Lib.hid (HX.out.nil HO1.out)
  have HE1 : Hid ((W1.drewN nq).heap[w.heap.size]? = some (.cells e.row tEvt (0, 0))) := Lib.hid (blk_drewN HE0.out nq)
  generalize W1.drewN nq = W at *
  clear e0 e1 e2 e3 e4 e5 e6 e7 e8 e9 e10 e11 e12 ef el c5 c6 c7 cl HP0 HE0 HO0
  obtain ⟨e0, e1, e2, e3, e4, e5, e6, e7, e8, e9, e10, e11, e12, ef, el⟩ := ev_cells HE1.out
  have c5 := blk_cell HP1.out.rep.blk 5
  have c6 := blk_cell HP1.out.rep.blk 6
  have c7 := blk_cell HP1.out.rep.blk 7
  have cl := blk_lt HP1.out.rep.blk
  simp only [List.getElem?_toArray, List.getElem?_cons_zero, List.getElem?_cons_succ] at c5 c6 c7
  go_wp2
  go_ret
  exact fin_no (same_post HX.out HO1.out) (by decide)
set_option maxHeartbeats 1600000 in
set_option maxRecDepth 100000 in
theorem add_rej (C : Nat) (x : Pk) (e : Ev) (v1 v2 p6 p7 : Value) (w : World) (h : PkAt w C x v1 v2 p6 p7) (hx : x.ok) (hw : e.wf) (hs : (e.seq != IntKind.u64.wrap (x.b.seq + 1)) = false) (hn : x.now = none) (hi : x.ins = none) (hk : (e.kind == 2) = true) (code : Int) (hc : rejected x.b e = code) :
    Calls Try.prog 13 #[.pointer (some ⟨C, 0, none⟩), .agg e.row] w (Fin C e code x v1 v2 p6 w) := by
  obtain ⟨_, rfl⟩ : x.now = none ∧ p6 = .pointer none := by
    rcases h.now with q | ⟨c, G, q, _⟩
    · exact q
    · rw [hn] at q; cases q
  obtain ⟨_, rfl⟩ : x.ins = none ∧ p7 = .pointer none := by
    rcases h.ins with q | ⟨m, s, k, H, q, _⟩
    · exact q
    · rw [hi] at q; cases q
  have HC := Lib.hid (fun W (ho : Only Nil w W) => rejected_any C x.b e v1 v2 _ _ W (h.nil ho).rep hx.ok)
  rw [hc] at HC
  clear hx hw hn hi hc
  have HX := Lib.hid h
  have HE0 := Lib.hid (blk_new w (.cells e.row tEvt))
  have HO0 := Lib.hid ((Only.refl Nil w).alloc (.cells e.row tEvt))
  clear h
  go_enter Try.func13, Try.ntmps13
  unfold Ev.row
  go_upto_region 1 with fail
  generalize hW : World.alloc w _ = W1
  have hW' : w.alloc (.cells e.row tEvt) = W1 := hW
  rw [hW'] at HE0 HO0
  clear hW hW'
  have HP0 := Lib.hid (HX.out.nil HO0.out)
  obtain ⟨e0, e1, e2, e3, e4, e5, e6, e7, e8, e9, e10, e11, e12, ef, el⟩ := ev_cells HE0.out
  have c5 := blk_cell HP0.out.rep.blk 5
  have c6 := blk_cell HP0.out.rep.blk 6
  have c7 := blk_cell HP0.out.rep.blk 7
  have cl := blk_lt HP0.out.rep.blk
  simp only [List.getElem?_toArray, List.getElem?_cons_zero, List.getElem?_cons_succ] at c5 c6 c7
  go_quiet (fail)
  have HO1 := Lib.hid (HO0.out.drewN nq)
  have HP1 := Lib.hid (HX.out.nil HO1.out)
  have HE1 : Hid ((W1.drewN nq).heap[w.heap.size]? = some (.cells e.row tEvt (0, 0))) := Lib.hid (blk_drewN HE0.out nq)
  generalize W1.drewN nq = W at *
  clear e0 e1 e2 e3 e4 e5 e6 e7 e8 e9 e10 e11 e12 ef el c5 c6 c7 cl HP0 HE0 HO0
  obtain ⟨e0, e1, e2, e3, e4, e5, e6, e7, e8, e9, e10, e11, e12, ef, el⟩ := ev_cells HE1.out
  have c5 := blk_cell HP1.out.rep.blk 5
  have c6 := blk_cell HP1.out.rep.blk 6
  have c7 := blk_cell HP1.out.rep.blk 7
  have cl := blk_lt HP1.out.rep.blk
  simp only [List.getElem?_toArray, List.getElem?_cons_zero, List.getElem?_cons_succ] at c5 c6 c7
  go_wp2_with fail
  refine (HC.out _ HO1.out).mono ?_
  rintro r wn ⟨rfl, ho⟩
  have HM : Hid (AddPost C x v1 v2 (.pointer none) w wn) := Lib.hid (same_post HX.out (HO1.out.trans (S := Nil) ho (fun _ _ q => q)))
  have HEn : Hid (wn.heap[w.heap.size]? = some (.cells e.row tEvt (0, 0))) := Lib.hid (ho.blk HE1.out (fun q => q))
  clear e0 e1 e2 e3 e4 e5 e6 e7 e8 e9 e10 e11 e12 ef el c5 c6 c7 cl
  clear ho HC HP1 HE1 HO1
  obtain ⟨u1, u2, u6, u7, hp, hfr, hnp, hon⟩ := HM.out
  have Hp := Lib.hid hp
  have Hfr := Lib.hid hfr
  have Hnp := Lib.hid hnp
  have Hon := Lib.hid hon
  clear hp hfr hnp hon HM
  obtain ⟨e0, e1, e2, e3, e4, e5, e6, e7, e8, e9, e10, e11, e12, ef, el⟩ := ev_cells HEn.out
  have b5 := blk_cell Hp.out.rep.blk 5
  have bf := fun k => blk_frozen Hp.out.rep.blk k
  have bl := blk_lt Hp.out.rep.blk
  simp only [List.getElem?_toArray, List.getElem?_cons_zero, List.getElem?_cons_succ] at b5
  by_cases hz : code = 0
  · have hzb : (code == 0) = true := by simp [hz]
    have HZ := Lib.hid hz
    clear hz
    go_wp2
    go_ret
    exact fin_yes Hp.out Hfr.out Hnp.out Hon.out HZ.out
  · have hzb : (code == 0) = false := by simp [hz]
    have HZ := Lib.hid hz
    clear hz
    go_wp2
    go_ret
    exact fin_no ⟨u1, u2, u6, u7, Hp.out, Hfr.out, Hnp.out, Hon.out⟩ HZ.out
set_option maxHeartbeats 1600000 in
set_option maxRecDepth 100000 in
theorem add_can (C : Nat) (x : Pk) (e : Ev) (v1 v2 p6 p7 : Value) (w : World) (h : PkAt w C x v1 v2 p6 p7) (hx : x.ok) (hw : e.wf) (hs : (e.seq != IntKind.u64.wrap (x.b.seq + 1)) = false) (hn : x.now = none) (hi : x.ins = none) (hk2 : (e.kind == 2) = false) (hk : (e.kind == 4) = true) (code : Int) (x' : Pk) (hc : cancelled x e = (code, x')) :
    Calls Try.prog 13 #[.pointer (some ⟨C, 0, none⟩), .agg e.row] w (Fin C e code x' v1 v2 p6 w) := by
  obtain ⟨_, rfl⟩ : x.now = none ∧ p6 = .pointer none := by
    rcases h.now with q | ⟨c, G, q, _⟩
    · exact q
    · rw [hn] at q; cases q
  obtain ⟨_, rfl⟩ : x.ins = none ∧ p7 = .pointer none := by
    rcases h.ins with q | ⟨m, s, k, H, q, _⟩
    · exact q
    · rw [hi] at q; cases q
  have HC := Lib.hid (fun W (ho : Only Nil w W) => cancelled_any C x e v1 v2 _ _ W (h.nil ho).rep hx.ok hw hi rfl)
  rw [hc] at HC
  have HN := Lib.hid hn
  clear hx hw hn hi hc
  have HX := Lib.hid h
  have HE0 := Lib.hid (blk_new w (.cells e.row tEvt))
  have HO0 := Lib.hid ((Only.refl Nil w).alloc (.cells e.row tEvt))
  clear h
  go_enter Try.func13, Try.ntmps13
  unfold Ev.row
  go_upto_region 1 with fail
  generalize hW : World.alloc w _ = W1
  have hW' : w.alloc (.cells e.row tEvt) = W1 := hW
  rw [hW'] at HE0 HO0
  clear hW hW'
  have HP0 := Lib.hid (HX.out.nil HO0.out)
  obtain ⟨e0, e1, e2, e3, e4, e5, e6, e7, e8, e9, e10, e11, e12, ef, el⟩ := ev_cells HE0.out
  have c5 := blk_cell HP0.out.rep.blk 5
  have c6 := blk_cell HP0.out.rep.blk 6
  have c7 := blk_cell HP0.out.rep.blk 7
  have cl := blk_lt HP0.out.rep.blk
  simp only [List.getElem?_toArray, List.getElem?_cons_zero, List.getElem?_cons_succ] at c5 c6 c7
  go_quiet (fail)
  have HO1 := Lib.hid (HO0.out.drewN nq)
  have HP1 := Lib.hid (HX.out.nil HO1.out)
  have HE1 : Hid ((W1.drewN nq).heap[w.heap.size]? = some (.cells e.row tEvt (0, 0))) := Lib.hid (blk_drewN HE0.out nq)
  generalize W1.drewN nq = W at *
  clear e0 e1 e2 e3 e4 e5 e6 e7 e8 e9 e10 e11 e12 ef el c5 c6 c7 cl HP0 HE0 HO0
  obtain ⟨e0, e1, e2, e3, e4, e5, e6, e7, e8, e9, e10, e11, e12, ef, el⟩ := ev_cells HE1.out
  have c5 := blk_cell HP1.out.rep.blk 5
  have c6 := blk_cell HP1.out.rep.blk 6
  have c7 := blk_cell HP1.out.rep.blk 7
  have cl := blk_lt HP1.out.rep.blk
  simp only [List.getElem?_toArray, List.getElem?_cons_zero, List.getElem?_cons_succ] at c5 c6 c7
  go_wp2_with fail
  refine (HC.out _ HO1.out).mono ?_
  rintro r wn ⟨rfl, q1, q2, q7, hb, hin, hnw, hfr, ho⟩
  have HM : Hid (AddPost C x' v1 v2 (.pointer none) w wn) := Lib.hid ⟨q1, q2, _, q7, ⟨hb, .inl ⟨hnw.trans HN.out, rfl⟩, hin⟩, fun k hk => (hfr k hk).imp id (fun q => Nat.le_trans HO1.out.size q), .inl rfl,
    (HO1.out.mono (fun _ _ q => q.elim)).trans ho (fun _ _ q => .inl q)⟩
  have hel : w.heap.size < W.heap.size := blk_lt HE1.out
  have hnot : ∀ k, k = w.heap.size → ¬ Hers C v1 v2 (.pointer none) k := fun k hk hm => by have := hers_lt HX.out hm; omega
  have HEn : Hid (wn.heap[w.heap.size]? = some (.cells e.row tEvt (0, 0))) := Lib.hid (ho.blk HE1.out (fun q => hnot _ rfl (.inl q)))
  clear e0 e1 e2 e3 e4 e5 e6 e7 e8 e9 e10 e11 e12 ef el c5 c6 c7 cl
  clear ho hb hin hnw hfr hel hnot HC HP1 HE1 HO1
  obtain ⟨u1, u2, u6, u7, hp, hfr, hnp, hon⟩ := HM.out
  have Hp := Lib.hid hp
  have Hfr := Lib.hid hfr
  have Hnp := Lib.hid hnp
  have Hon := Lib.hid hon
  clear hp hfr hnp hon HM
  obtain ⟨e0, e1, e2, e3, e4, e5, e6, e7, e8, e9, e10, e11, e12, ef, el⟩ := ev_cells HEn.out
  have b5 := blk_cell Hp.out.rep.blk 5
  have bf := fun k => blk_frozen Hp.out.rep.blk k
  have bl := blk_lt Hp.out.rep.blk
  simp only [List.getElem?_toArray, List.getElem?_cons_zero, List.getElem?_cons_succ] at b5
  by_cases hz : code = 0
  · have hzb : (code == 0) = true := by simp [hz]
    have HZ := Lib.hid hz
    clear hz
    go_wp2
    go_ret
    exact fin_yes Hp.out Hfr.out Hnp.out Hon.out HZ.out
  · have hzb : (code == 0) = false := by simp [hz]
    have HZ := Lib.hid hz
    clear hz
    go_wp2
    go_ret
    exact fin_no ⟨u1, u2, u6, u7, Hp.out, Hfr.out, Hnp.out, Hon.out⟩ HZ.out
theorem acked_all (C : Nat) (x : Pk) (e : Ev) (i : Bool) (v1 v2 p6 p7 : Value) (w : World) (h : PkAt w C x v1 v2 p6 p7) (hx : x.ok) (hw : e.wf) (hn : x.now = none) (hroom : i = true → x.b.count + 1 ≤ 4096) (code : Int) (x' : Pk) (hc : acked x e i = (code, x')) :
    Calls Try.prog 31 #[.pointer (some ⟨C, 0, none⟩), .agg e.row, .bool i] w fun r w' => r = .returned (.int .i64 code) ∧
      ∃ v1' v2' p6' p7', PkAt w' C x' v1' v2' p6' p7' ∧ Fresh w C v1 v2 v1' v2' ∧ NewP w p6 p6' ∧ Only (Mine C v1 v2) w w' := by
  unfold acked at hc
  by_cases hcc : canCome x.b e i = false
  · rw [if_pos hcc] at hc
    injection hc with e1 e2
    subst e1; subst e2
    refine (acked_no C x.b e i v1 v2 p6 p7 w h.rep hx.ok hw hcc).mono ?_
    rintro r w' ⟨rfl, ho⟩
    exact ⟨rfl, v1, v2, p6, p7, h.nil ho, fun _ q => .inl q, .inl rfl, ho.mono (fun _ _ q => q.elim)⟩
  · rw [if_neg hcc] at hc
    injection hc with e1 e2
    subst e1; subst e2
    have hcc' : canCome x.b e i = true := by cases q : canCome x.b e i with | true => rfl | false => exact absurd q hcc
    refine (acked_yes C x.b e i v1 v2 p6 p7 w h.rep hx.ok ⟨hx.low, hx.vis hn⟩ hw hroom hcc').mono ?_
    rintro r w' ⟨rfl, v1', v2', p6', hb, hnw, hfr, ho⟩
    refine ⟨rfl, v1', v2', p6', _, ⟨hb, ?_, .inl ⟨rfl, rfl⟩⟩, hfr, ?_, ho⟩
    · rcases hnw with q | ⟨c, G, q1, q2, q3, _⟩
      · exact .inl q
      · exact .inr ⟨c, G, q1, q2, q3⟩
    · rcases hnw with ⟨_, q⟩ | ⟨c, G, _, q2, _, q4⟩
      · exact .inr (.inl q)
      · exact .inr (.inr ⟨G, q2, q4⟩)
set_option maxHeartbeats 1600000 in
set_option maxRecDepth 100000 in
theorem add_ack (C : Nat) (x : Pk) (e : Ev) (v1 v2 p6 p7 : Value) (w : World) (h : PkAt w C x v1 v2 p6 p7) (hx : x.ok) (hw : e.wf) (hs : (e.seq != IntKind.u64.wrap (x.b.seq + 1)) = false) (hn : x.now = none) (hi : x.ins = none) (hk2 : (e.kind == 2) = false) (hk4 : (e.kind == 4) = false) (hk : (e.kind == 1) = true) (code : Int) (x' : Pk) (hc : acked x e false = (code, x')) :
    Calls Try.prog 13 #[.pointer (some ⟨C, 0, none⟩), .agg e.row] w (Fin C e code x' v1 v2 p6 w) := by
  obtain ⟨_, rfl⟩ : x.now = none ∧ p6 = .pointer none := by
    rcases h.now with q | ⟨c, G, q, _⟩
    · exact q
    · rw [hn] at q; cases q
  obtain ⟨_, rfl⟩ : x.ins = none ∧ p7 = .pointer none := by
    rcases h.ins with q | ⟨m, s, k, H, q, _⟩
    · exact q
    · rw [hi] at q; cases q
  have HC := Lib.hid (fun W (ho : Only Nil w W) => acked_all C x e false v1 v2 _ _ W (h.nil ho) hx hw hn (fun q => by cases q) code x' hc)
  clear hx hw hn hi hc
  have HX := Lib.hid h
  have HE0 := Lib.hid (blk_new w (.cells e.row tEvt))
  have HO0 := Lib.hid ((Only.refl Nil w).alloc (.cells e.row tEvt))
  clear h
  go_enter Try.func13, Try.ntmps13
  unfold Ev.row
  go_upto_region 1 with fail
  generalize hW : World.alloc w _ = W1
  have hW' : w.alloc (.cells e.row tEvt) = W1 := hW
  rw [hW'] at HE0 HO0
  clear hW hW'
  have HP0 := Lib.hid (HX.out.nil HO0.out)
  obtain ⟨e0, e1, e2, e3, e4, e5, e6, e7, e8, e9, e10, e11, e12, ef, el⟩ := ev_cells HE0.out
  have c5 := blk_cell HP0.out.rep.blk 5
  have c6 := blk_cell HP0.out.rep.blk 6
  have c7 := blk_cell HP0.out.rep.blk 7
  have cl := blk_lt HP0.out.rep.blk
  simp only [List.getElem?_toArray, List.getElem?_cons_zero, List.getElem?_cons_succ] at c5 c6 c7
  go_quiet (fail)
  have HO1 := Lib.hid (HO0.out.drewN nq)
  have HP1 := Lib.hid (HX.out.nil HO1.out)
  have HE1 : Hid ((W1.drewN nq).heap[w.heap.size]? = some (.cells e.row tEvt (0, 0))) := Lib.hid (blk_drewN HE0.out nq)
  generalize W1.drewN nq = W at *
  clear e0 e1 e2 e3 e4 e5 e6 e7 e8 e9 e10 e11 e12 ef el c5 c6 c7 cl HP0 HE0 HO0
  obtain ⟨e0, e1, e2, e3, e4, e5, e6, e7, e8, e9, e10, e11, e12, ef, el⟩ := ev_cells HE1.out
  have c5 := blk_cell HP1.out.rep.blk 5
  have c6 := blk_cell HP1.out.rep.blk 6
  have c7 := blk_cell HP1.out.rep.blk 7
  have cl := blk_lt HP1.out.rep.blk
  simp only [List.getElem?_toArray, List.getElem?_cons_zero, List.getElem?_cons_succ] at c5 c6 c7
  go_wp2_with fail
  refine (HC.out _ HO1.out).mono ?_
  rintro r wn ⟨rfl, q1, q2, q6, q7, hp, hfr, hnp, ho⟩
  have HM : Hid (AddPost C x' v1 v2 (.pointer none) w wn) := Lib.hid ⟨q1, q2, q6, q7, hp, fun k hk => (hfr k hk).imp id (fun q => Nat.le_trans HO1.out.size q), hnp.imp id (Or.imp id (fun ⟨G, g1, g2⟩ => ⟨G, g1, Nat.le_trans HO1.out.size g2⟩)),
    (HO1.out.mono (fun _ _ q => q.elim)).trans ho (fun _ _ q => .inl q)⟩
  have hel : w.heap.size < W.heap.size := blk_lt HE1.out
  have hnot : ∀ k, k = w.heap.size → ¬ Hers C v1 v2 (.pointer none) k := fun k hk hm => by have := hers_lt HX.out hm; omega
  have HEn : Hid (wn.heap[w.heap.size]? = some (.cells e.row tEvt (0, 0))) := Lib.hid (ho.blk HE1.out (fun q => hnot _ rfl (.inl q)))
  clear e0 e1 e2 e3 e4 e5 e6 e7 e8 e9 e10 e11 e12 ef el c5 c6 c7 cl
  clear ho hp hnp hfr hel hnot HC HP1 HE1 HO1
  obtain ⟨u1, u2, u6, u7, hp, hfr, hnp, hon⟩ := HM.out
  have Hp := Lib.hid hp
  have Hfr := Lib.hid hfr
  have Hnp := Lib.hid hnp
  have Hon := Lib.hid hon
  clear hp hfr hnp hon HM
  obtain ⟨e0, e1, e2, e3, e4, e5, e6, e7, e8, e9, e10, e11, e12, ef, el⟩ := ev_cells HEn.out
  have b5 := blk_cell Hp.out.rep.blk 5
  have bf := fun k => blk_frozen Hp.out.rep.blk k
  have bl := blk_lt Hp.out.rep.blk
  simp only [List.getElem?_toArray, List.getElem?_cons_zero, List.getElem?_cons_succ] at b5
  by_cases hz : code = 0
  · have hzb : (code == 0) = true := by simp [hz]
    have HZ := Lib.hid hz
    clear hz
    go_wp2
    go_ret
    exact fin_yes Hp.out Hfr.out Hnp.out Hon.out HZ.out
  · have hzb : (code == 0) = false := by simp [hz]
    have HZ := Lib.hid hz
    clear hz
    go_wp2
    go_ret
    exact fin_no ⟨u1, u2, u6, u7, Hp.out, Hfr.out, Hnp.out, Hon.out⟩ HZ.out
set_option maxHeartbeats 1600000 in
set_option maxRecDepth 100000 in
theorem add_none (C : Nat) (x : Pk) (e : Ev) (v1 v2 p6 p7 : Value) (w : World) (h : PkAt w C x v1 v2 p6 p7) (hs : (e.seq != IntKind.u64.wrap (x.b.seq + 1)) = false) (hn : x.now = none) (hi : x.ins = none) (hk2 : (e.kind == 2) = false) (hk4 : (e.kind == 4) = false) (hk : (e.kind == 1) = false) :
    Calls Try.prog 13 #[.pointer (some ⟨C, 0, none⟩), .agg e.row] w (Fin C e 191 x v1 v2 p6 w) := by
  obtain ⟨_, rfl⟩ : x.now = none ∧ p6 = .pointer none := by
    rcases h.now with q | ⟨c, G, q, _⟩
    · exact q
    · rw [hn] at q; cases q
  obtain ⟨_, rfl⟩ : x.ins = none ∧ p7 = .pointer none := by
    rcases h.ins with q | ⟨m, s, k, H, q, _⟩
    · exact q
    · rw [hi] at q; cases q
  clear hn hi
  have HX := Lib.hid h
  have HE0 := Lib.hid (blk_new w (.cells e.row tEvt))
  have HO0 := Lib.hid ((Only.refl Nil w).alloc (.cells e.row tEvt))
  clear h
  go_enter Try.func13, Try.ntmps13
  unfold Ev.row
  go_upto_region 1 with fail
  generalize hW : World.alloc w _ = W1
  have hW' : w.alloc (.cells e.row tEvt) = W1 := hW
  rw [hW'] at HE0 HO0
  clear hW hW'
  have HP0 := Lib.hid (HX.out.nil HO0.out)
  obtain ⟨e0, e1, e2, e3, e4, e5, e6, e7, e8, e9, e10, e11, e12, ef, el⟩ := ev_cells HE0.out
  have c5 := blk_cell HP0.out.rep.blk 5
  have c6 := blk_cell HP0.out.rep.blk 6
  have c7 := blk_cell HP0.out.rep.blk 7
  have cl := blk_lt HP0.out.rep.blk
  simp only [List.getElem?_toArray, List.getElem?_cons_zero, List.getElem?_cons_succ] at c5 c6 c7
  go_quiet (fail)
  have HO1 := Lib.hid (HO0.out.drewN nq)
  have HP1 := Lib.hid (HX.out.nil HO1.out)
  have HE1 : Hid ((W1.drewN nq).heap[w.heap.size]? = some (.cells e.row tEvt (0, 0))) := Lib.hid (blk_drewN HE0.out nq)
  generalize W1.drewN nq = W at *
  clear e0 e1 e2 e3 e4 e5 e6 e7 e8 e9 e10 e11 e12 ef el c5 c6 c7 cl HP0 HE0 HO0
  obtain ⟨e0, e1, e2, e3, e4, e5, e6, e7, e8, e9, e10, e11, e12, ef, el⟩ := ev_cells HE1.out
  have c5 := blk_cell HP1.out.rep.blk 5
  have c6 := blk_cell HP1.out.rep.blk 6
  have c7 := blk_cell HP1.out.rep.blk 7
  have cl := blk_lt HP1.out.rep.blk
  simp only [List.getElem?_toArray, List.getElem?_cons_zero, List.getElem?_cons_succ] at c5 c6 c7
  go_wp2
  go_ret
  exact fin_no (same_post HX.out HO1.out) (by decide)
set_option maxHeartbeats 1600000 in
set_option maxRecDepth 100000 in
theorem addw_next (C : Nat) (x : Pk) (e : Ev) (v1 v2 p6 p7 : Value) (w : World) (h : PkAt w C x v1 v2 p6 p7) (hx : x.ok) (hw : e.wf) (hs : (e.seq != IntKind.u64.wrap (x.b.seq + 1)) = false) (c : Cg) (hn : x.now = some c) (hi : x.ins = none) (code : Int) (x' : Pk) (hc : (⟨(next x.b c e).1, ⟨(next x.b c e).2.1, (next x.b c e).2.2, none⟩⟩ : Int × Pk) = (code, x')) :
    Calls Try.prog 13 #[.pointer (some ⟨C, 0, none⟩), .agg e.row] w (Fin C e code x' v1 v2 p6 w) := by
  obtain ⟨_, rfl⟩ : x.ins = none ∧ p7 = .pointer none := by
    rcases h.ins with q | ⟨m, s, k, H, q, _⟩
    · exact q
    · rw [hi] at q; cases q
  obtain ⟨G, rfl, hG⟩ : ∃ G, p6 = .pointer (some ⟨G, 0, none⟩) ∧ CgAt w G c := by
    rcases h.now with ⟨q, _⟩ | ⟨c', G, q, h2, h3⟩
    · rw [hn] at q; cases q
    · rw [hn] at q; injection q with q; subst q; exact ⟨G, h2, h3⟩
  injection hc with hc1 hc2
  obtain ⟨k1, k2, k3, k4, k5, m, hm⟩ := hx.now c hn
  have HC := Lib.hid (fun W (ho : Only Nil w W) => next_any C G x.b c m v1 v2 _ e W (h.nil ho).rep (hG.nil ho) hx.ok k1 k2 hm)
  rw [hc1] at HC
  have Hx' := Lib.hid hc2
  clear hx hw hn hi hc1 hc2 k1 k2 k3 k4 k5 hm hG
  have HX := Lib.hid h
  have HE0 := Lib.hid (blk_new w (.cells e.row tEvt))
  have HO0 := Lib.hid ((Only.refl Nil w).alloc (.cells e.row tEvt))
  clear h
  go_enter Try.func13, Try.ntmps13
  unfold Ev.row
  go_upto_region 1 with fail
  generalize hW : World.alloc w _ = W1
  have hW' : w.alloc (.cells e.row tEvt) = W1 := hW
  rw [hW'] at HE0 HO0
  clear hW hW'
  have HP0 := Lib.hid (HX.out.nil HO0.out)
  obtain ⟨e0, e1, e2, e3, e4, e5, e6, e7, e8, e9, e10, e11, e12, ef, el⟩ := ev_cells HE0.out
  have c5 := blk_cell HP0.out.rep.blk 5
  have c6 := blk_cell HP0.out.rep.blk 6
  have c7 := blk_cell HP0.out.rep.blk 7
  have cl := blk_lt HP0.out.rep.blk
  simp only [List.getElem?_toArray, List.getElem?_cons_zero, List.getElem?_cons_succ] at c5 c6 c7
  go_quiet (fail)
  have HO1 := Lib.hid (HO0.out.drewN nq)
  have HP1 := Lib.hid (HX.out.nil HO1.out)
  have HE1 : Hid ((W1.drewN nq).heap[w.heap.size]? = some (.cells e.row tEvt (0, 0))) := Lib.hid (blk_drewN HE0.out nq)
  generalize W1.drewN nq = W at *
  clear e0 e1 e2 e3 e4 e5 e6 e7 e8 e9 e10 e11 e12 ef el c5 c6 c7 cl HP0 HE0 HO0
  obtain ⟨e0, e1, e2, e3, e4, e5, e6, e7, e8, e9, e10, e11, e12, ef, el⟩ := ev_cells HE1.out
  have c5 := blk_cell HP1.out.rep.blk 5
  have c6 := blk_cell HP1.out.rep.blk 6
  have c7 := blk_cell HP1.out.rep.blk 7
  have cl := blk_lt HP1.out.rep.blk
  simp only [List.getElem?_toArray, List.getElem?_cons_zero, List.getElem?_cons_succ] at c5 c6 c7
  go_wp2_with fail
  refine (HC.out _ HO1.out).mono ?_
  rintro r wn ⟨rfl, q1, q2, q6, hb, hnw, hfr, ho⟩
  have HM : Hid (AddPost C x' v1 v2 (.pointer (some ⟨G, 0, none⟩)) w wn) := Lib.hid (by
    rw [← Hx'.out]
    refine ⟨q1, q2, q6, _, ⟨hb, ?_, .inl ⟨rfl, rfl⟩⟩, fun k hk => (hfr k hk).imp id (fun q => Nat.le_trans HO1.out.size q), ?_, (HO1.out.mono (fun _ _ q => q.elim)).trans ho (fun k _ q => ?_)⟩
    · rcases hnw with ⟨g1, g2, g3⟩ | g | ⟨c', g1, g2, g3⟩
      · exact .inr ⟨c, G, g1, g2, g3⟩
      · exact .inl g
      · exact .inr ⟨c', G, g1, g2, g3⟩
    · rcases hnw with ⟨_, g2, _⟩ | ⟨_, g2⟩ | ⟨c', _, g2, _⟩
      · exact .inl g2
      · exact .inr (.inl g2)
      · exact .inl g2
    · rcases q with q | q
      · exact .inl q
      · exact .inr (by rw [q]))
  have hel : w.heap.size < W.heap.size := blk_lt HE1.out
  have hnot : ∀ k, k = w.heap.size → ¬ Hers C v1 v2 (.pointer (some ⟨G, 0, none⟩)) k := fun k hk hm => by have := hers_lt HX.out hm; omega
  have HEn : Hid (wn.heap[w.heap.size]? = some (.cells e.row tEvt (0, 0))) := Lib.hid (ho.blk HE1.out (fun q => hnot _ rfl (q.imp id (fun g => by rw [g]))))
  clear e0 e1 e2 e3 e4 e5 e6 e7 e8 e9 e10 e11 e12 ef el c5 c6 c7 cl
  clear ho hb hnw hfr hel hnot HC HP1 HE1 HO1 Hx'
  obtain ⟨u1, u2, u6, u7, hp, hfr, hnp, hon⟩ := HM.out
  have Hp := Lib.hid hp
  have Hfr := Lib.hid hfr
  have Hnp := Lib.hid hnp
  have Hon := Lib.hid hon
  clear hp hfr hnp hon HM
  obtain ⟨e0, e1, e2, e3, e4, e5, e6, e7, e8, e9, e10, e11, e12, ef, el⟩ := ev_cells HEn.out
  have b5 := blk_cell Hp.out.rep.blk 5
  have bf := fun k => blk_frozen Hp.out.rep.blk k
  have bl := blk_lt Hp.out.rep.blk
  simp only [List.getElem?_toArray, List.getElem?_cons_zero, List.getElem?_cons_succ] at b5
  by_cases hz : code = 0
  · have hzb : (code == 0) = true := by simp [hz]
    have HZ := Lib.hid hz
    clear hz
    go_wp2
    go_ret
    exact fin_yes Hp.out Hfr.out Hnp.out Hon.out HZ.out
  · have hzb : (code == 0) = false := by simp [hz]
    have HZ := Lib.hid hz
    clear hz
    go_wp2
    go_ret
    exact fin_no ⟨u1, u2, u6, u7, Hp.out, Hfr.out, Hnp.out, Hon.out⟩ HZ.out
set_option maxHeartbeats 1600000 in
set_option maxRecDepth 100000 in
theorem add_insno (C : Nat) (x : Pk) (e : Ev) (v1 v2 p6 p7 : Value) (w : World) (h : PkAt w C x v1 v2 p6 p7) (hs : (e.seq != IntKind.u64.wrap (x.b.seq + 1)) = false) (m s k : Int) (hi : x.ins = some (m, s, k)) (hbad : (e.kind != 1) = true ∨ ((e.kind != 1) = false ∧ (e.mem != m) = true) ∨ ((e.kind != 1) = false ∧ (e.mem != m) = false ∧ (e.side != s) = true) ∨ ((e.kind != 1) = false ∧ (e.mem != m) = false ∧ (e.side != s) = false ∧ (e.typ != k) = true)) :
    Calls Try.prog 13 #[.pointer (some ⟨C, 0, none⟩), .agg e.row] w (Fin C e 191 x v1 v2 p6 w) := by
  obtain ⟨H, rfl, hH⟩ : ∃ H, p7 = .pointer (some ⟨H, 0, none⟩) ∧ w.heap[H]? = some (.cells #[.int .u32 m, .int .i64 s, .int .i64 k] tRp (0, 0)) := by
    rcases h.ins with ⟨q, _⟩ | ⟨m', s', k', H, q, h2, h3⟩
    · rw [hi] at q; cases q
    · rw [hi] at q
      injection q with q
      injection q with q1 q
      injection q with q2 q3
      subst q1; subst q2; subst q3
      exact ⟨H, h2, h3⟩
  have HHw := Lib.hid hH
  have HBad := Lib.hid hbad
  clear hi hH hbad
  have HX := Lib.hid h
  have HE0 := Lib.hid (blk_new w (.cells e.row tEvt))
  have HO0 := Lib.hid ((Only.refl Nil w).alloc (.cells e.row tEvt))
  clear h
  go_enter Try.func13, Try.ntmps13
  unfold Ev.row
  go_upto_region 1 with fail
  generalize hW : World.alloc w _ = W1
  have hW' : w.alloc (.cells e.row tEvt) = W1 := hW
  rw [hW'] at HE0 HO0
  clear hW hW'
  have HP0 := Lib.hid (HX.out.nil HO0.out)
  obtain ⟨e0, e1, e2, e3, e4, e5, e6, e7, e8, e9, e10, e11, e12, ef, el⟩ := ev_cells HE0.out
  have c5 := blk_cell HP0.out.rep.blk 5
  have c6 := blk_cell HP0.out.rep.blk 6
  have c7 := blk_cell HP0.out.rep.blk 7
  have cl := blk_lt HP0.out.rep.blk
  simp only [List.getElem?_toArray, List.getElem?_cons_zero, List.getElem?_cons_succ] at c5 c6 c7
  go_quiet (fail)
  have HO1 := Lib.hid (HO0.out.drewN nq)
  have HP1 := Lib.hid (HX.out.nil HO1.out)
  have HE1 : Hid ((W1.drewN nq).heap[w.heap.size]? = some (.cells e.row tEvt (0, 0))) := Lib.hid (blk_drewN HE0.out nq)
  generalize W1.drewN nq = W at *
  clear e0 e1 e2 e3 e4 e5 e6 e7 e8 e9 e10 e11 e12 ef el c5 c6 c7 cl HP0 HE0 HO0
  obtain ⟨e0, e1, e2, e3, e4, e5, e6, e7, e8, e9, e10, e11, e12, ef, el⟩ := ev_cells HE1.out
  have c5 := blk_cell HP1.out.rep.blk 5
  have c6 := blk_cell HP1.out.rep.blk 6
  have c7 := blk_cell HP1.out.rep.blk 7
  have cl := blk_lt HP1.out.rep.blk
  simp only [List.getElem?_toArray, List.getElem?_cons_zero, List.getElem?_cons_succ] at c5 c6 c7
  have HH := Lib.hid (HO1.out.blk HHw.out (fun q => q))
  have i0 := blk_cell HH.out 0
  have i1 := blk_cell HH.out 1
  have i2 := blk_cell HH.out 2
  have il := blk_lt HH.out
  simp only [List.getElem?_toArray, List.getElem?_cons_zero, List.getElem?_cons_succ] at i0 i1 i2
  go_upto_region 7 with fail
  generalize hW : World.alloc W _ = W2
  have hW' : W.alloc (.cells #[.int .u32 m, .int .i64 s, .int .i64 k] tRp) = W2 := hW
  have ho2 : Only Nil W W2 := by rw [← hW']; exact (Only.refl _ _).alloc _
  have HB2 : Hid (W2.heap[W.heap.size]? = some (.cells #[.int .u32 m, .int .i64 s, .int .i64 k] tRp (0, 0))) := Lib.hid (by rw [← hW']; exact blk_new _ _)
  have HE2 : Hid (W2.heap[w.heap.size]? = some (.cells e.row tEvt (0, 0))) := Lib.hid (ho2.blk HE1.out (fun q => q))
  have HO2 : Hid (Only Nil w W2) := Lib.hid (HO1.out.trans (S := Nil) ho2 (fun _ _ q => q))
  clear hW hW' ho2 e0 e1 e2 e3 e4 e5 e6 e7 e8 e9 e10 e11 e12 ef el c5 c6 c7 cl i0 i1 i2 il HP1 HH HHw HO1 HE1
  have HO1 := HO2
  have HE1 := HE2
  clear HO2 HE2
  generalize W.heap.size = B at *
  obtain ⟨e0, e1, e2, e3, e4, e5, e6, e7, e8, e9, e10, e11, e12, ef, el⟩ := ev_cells HE1.out
  have i0 := blk_cell HB2.out 0
  have i1 := blk_cell HB2.out 1
  have i2 := blk_cell HB2.out 2
  have il := blk_lt HB2.out
  simp only [List.getElem?_toArray, List.getElem?_cons_zero, List.getElem?_cons_succ] at i0 i1 i2
  have hbad := HBad.out
  clear HBad
  rcases hbad with k1 | ⟨k1, k2⟩ | ⟨k1, k2, k3⟩ | ⟨k1, k2, k3, k4⟩
  all_goals
    go_wp2
    go_ret
    exact fin_no (same_post HX.out HO1.out) (by decide)
set_option maxHeartbeats 1600000 in
set_option maxRecDepth 100000 in
theorem add_ins (C : Nat) (x : Pk) (e : Ev) (v1 v2 p6 p7 : Value) (w : World) (h : PkAt w C x v1 v2 p6 p7) (hx : x.ok) (hw : e.wf) (hs : (e.seq != IntKind.u64.wrap (x.b.seq + 1)) = false) (m s k : Int) (hi : x.ins = some (m, s, k)) (hn : x.now = none) (k1 : (e.kind != 1) = false) (k2 : (e.mem != m) = false) (k3 : (e.side != s) = false) (k4 : (e.typ != k) = false) (code : Int) (x' : Pk) (hc : acked x e true = (code, x')) :
    Calls Try.prog 13 #[.pointer (some ⟨C, 0, none⟩), .agg e.row] w (Fin C e code x' v1 v2 p6 w) := by
  obtain ⟨_, rfl⟩ : x.now = none ∧ p6 = .pointer none := by
    rcases h.now with q | ⟨c, G, q, _⟩
    · exact q
    · rw [hn] at q; cases q
  obtain ⟨H, rfl, hH⟩ : ∃ H, p7 = .pointer (some ⟨H, 0, none⟩) ∧ w.heap[H]? = some (.cells #[.int .u32 m, .int .i64 s, .int .i64 k] tRp (0, 0)) := by
    rcases h.ins with ⟨q, _⟩ | ⟨m', s', k', H, q, h2, h3⟩
    · rw [hi] at q; cases q
    · rw [hi] at q
      injection q with q
      injection q with q1 q
      injection q with q2 q3
      subst q1; subst q2; subst q3
      exact ⟨H, h2, h3⟩
  have HHw := Lib.hid hH
  have HC := Lib.hid (fun W (ho : Only Nil w W) => acked_all C x e true v1 v2 _ _ W (h.nil ho) hx hw hn (fun _ => (hx.ins _ hi).2) code x' hc)
  clear hx hw hn hi hc hH
  have HX := Lib.hid h
  have HE0 := Lib.hid (blk_new w (.cells e.row tEvt))
  have HO0 := Lib.hid ((Only.refl Nil w).alloc (.cells e.row tEvt))
  clear h
  go_enter Try.func13, Try.ntmps13
  unfold Ev.row
  go_upto_region 1 with fail
  generalize hW : World.alloc w _ = W1
  have hW' : w.alloc (.cells e.row tEvt) = W1 := hW
  rw [hW'] at HE0 HO0
  clear hW hW'
  have HP0 := Lib.hid (HX.out.nil HO0.out)
  obtain ⟨e0, e1, e2, e3, e4, e5, e6, e7, e8, e9, e10, e11, e12, ef, el⟩ := ev_cells HE0.out
  have c5 := blk_cell HP0.out.rep.blk 5
  have c6 := blk_cell HP0.out.rep.blk 6
  have c7 := blk_cell HP0.out.rep.blk 7
  have cl := blk_lt HP0.out.rep.blk
  simp only [List.getElem?_toArray, List.getElem?_cons_zero, List.getElem?_cons_succ] at c5 c6 c7
  go_quiet (fail)
  have HO1 := Lib.hid (HO0.out.drewN nq)
  have HP1 := Lib.hid (HX.out.nil HO1.out)
  have HE1 : Hid ((W1.drewN nq).heap[w.heap.size]? = some (.cells e.row tEvt (0, 0))) := Lib.hid (blk_drewN HE0.out nq)
  generalize W1.drewN nq = W at *
  clear e0 e1 e2 e3 e4 e5 e6 e7 e8 e9 e10 e11 e12 ef el c5 c6 c7 cl HP0 HE0 HO0
  obtain ⟨e0, e1, e2, e3, e4, e5, e6, e7, e8, e9, e10, e11, e12, ef, el⟩ := ev_cells HE1.out
  have c5 := blk_cell HP1.out.rep.blk 5
  have c6 := blk_cell HP1.out.rep.blk 6
  have c7 := blk_cell HP1.out.rep.blk 7
  have cl := blk_lt HP1.out.rep.blk
  simp only [List.getElem?_toArray, List.getElem?_cons_zero, List.getElem?_cons_succ] at c5 c6 c7
  have HH := Lib.hid (HO1.out.blk HHw.out (fun q => q))
  have i0 := blk_cell HH.out 0
  have i1 := blk_cell HH.out 1
  have i2 := blk_cell HH.out 2
  have il := blk_lt HH.out
  simp only [List.getElem?_toArray, List.getElem?_cons_zero, List.getElem?_cons_succ] at i0 i1 i2
  go_upto_region 7 with fail
  generalize hW : World.alloc W _ = W2
  have hW' : W.alloc (.cells #[.int .u32 m, .int .i64 s, .int .i64 k] tRp) = W2 := hW
  have ho2 : Only Nil W W2 := by rw [← hW']; exact (Only.refl _ _).alloc _
  have HB2 : Hid (W2.heap[W.heap.size]? = some (.cells #[.int .u32 m, .int .i64 s, .int .i64 k] tRp (0, 0))) := Lib.hid (by rw [← hW']; exact blk_new _ _)
  have HE2 : Hid (W2.heap[w.heap.size]? = some (.cells e.row tEvt (0, 0))) := Lib.hid (ho2.blk HE1.out (fun q => q))
  have HO2 : Hid (Only Nil w W2) := Lib.hid (HO1.out.trans (S := Nil) ho2 (fun _ _ q => q))
  clear hW hW' ho2 e0 e1 e2 e3 e4 e5 e6 e7 e8 e9 e10 e11 e12 ef el c5 c6 c7 cl i0 i1 i2 il HP1 HH HHw HO1 HE1
  have HO1 := HO2
  have HE1 := HE2
  clear HO2 HE2
  generalize W.heap.size = B at *
  obtain ⟨e0, e1, e2, e3, e4, e5, e6, e7, e8, e9, e10, e11, e12, ef, el⟩ := ev_cells HE1.out
  have i0 := blk_cell HB2.out 0
  have i1 := blk_cell HB2.out 1
  have i2 := blk_cell HB2.out 2
  have il := blk_lt HB2.out
  simp only [List.getElem?_toArray, List.getElem?_cons_zero, List.getElem?_cons_succ] at i0 i1 i2
  go_wp2_with fail
  refine (HC.out _ HO1.out).mono ?_
  rintro r wn ⟨rfl, q1, q2, q6, q7, hp, hfr, hnp, ho⟩
  have HM : Hid (AddPost C x' v1 v2 (.pointer none) w wn) := Lib.hid ⟨q1, q2, q6, q7, hp, fun k hk => (hfr k hk).imp id (fun q => Nat.le_trans HO1.out.size q), hnp.imp id (Or.imp id (fun ⟨G, g1, g2⟩ => ⟨G, g1, Nat.le_trans HO1.out.size g2⟩)),
    (HO1.out.mono (fun _ _ q => q.elim)).trans ho (fun _ _ q => .inl q)⟩
  have hel : w.heap.size < W2.heap.size := blk_lt HE1.out
  have hnot : ∀ k, k = w.heap.size → ¬ Hers C v1 v2 (.pointer none) k := fun k hk hm => by have := hers_lt HX.out hm; omega
  have HEn : Hid (wn.heap[w.heap.size]? = some (.cells e.row tEvt (0, 0))) := Lib.hid (ho.blk HE1.out (fun q => hnot _ rfl (.inl q)))
  clear e0 e1 e2 e3 e4 e5 e6 e7 e8 e9 e10 e11 e12 ef el i0 i1 i2 il ho hp hnp hfr hel hnot HC HE1 HO1
  obtain ⟨u1, u2, u6, u7, hp, hfr, hnp, hon⟩ := HM.out
  have Hp := Lib.hid hp
  have Hfr := Lib.hid hfr
  have Hnp := Lib.hid hnp
  have Hon := Lib.hid hon
  clear hp hfr hnp hon HM
  obtain ⟨e0, e1, e2, e3, e4, e5, e6, e7, e8, e9, e10, e11, e12, ef, el⟩ := ev_cells HEn.out
  have b5 := blk_cell Hp.out.rep.blk 5
  have bf := fun k => blk_frozen Hp.out.rep.blk k
  have bl := blk_lt Hp.out.rep.blk
  simp only [List.getElem?_toArray, List.getElem?_cons_zero, List.getElem?_cons_succ] at b5
  by_cases hz : code = 0
  · have hzb : (code == 0) = true := by simp [hz]
    have HZ := Lib.hid hz
    clear hz
    go_wp2
    go_ret
    exact fin_yes Hp.out Hfr.out Hnp.out Hon.out HZ.out
  · have hzb : (code == 0) = false := by simp [hz]
    have HZ := Lib.hid hz
    clear hz
    go_wp2
    go_ret
    exact fin_no ⟨u1, u2, u6, u7, Hp.out, Hfr.out, Hnp.out, Hon.out⟩ HZ.out
theorem add_any (C : Nat) (x : Pk) (e : Ev) (v1 v2 p6 p7 : Value) (w : World) (h : PkAt w C x v1 v2 p6 p7) (hx : x.ok) (hw : e.wf) :
    Calls Try.prog 13 #[.pointer (some ⟨C, 0, none⟩), .agg e.row] w fun r w' => r = .returned (.int .i64 (x.add e).1) ∧ AddPost C (x.add e).2 v1 v2 p6 w w' := by
  have hwr : IntKind.u64.wrap (x.b.seq + 1) = wrapU (x.b.seq + 1) := by rw [IntKind.wrap_u64]; rfl
  by_cases hs : e.seq = wrapU (x.b.seq + 1)
  case neg =>
    have hA : x.add e = (190, x) := by unfold Pk.add; rw [if_pos hs]
    rw [hA]
    exact (add_seq C x e v1 v2 p6 p7 w h (by rw [hwr]; simp [hs])).mono fun r w' hf => ⟨hf.1, by have := hf.2; rwa [if_neg (by decide)] at this⟩
  have hsb : (e.seq != IntKind.u64.wrap (x.b.seq + 1)) = false := by rw [hwr]; simp [hs]
  have key : ∀ code x', x.step e = (code, x') → (∀ r w', Fin C e code x' v1 v2 p6 w r w' → r = .returned (.int .i64 (x.add e).1) ∧ AddPost C (x.add e).2 v1 v2 p6 w w') := by
    intro code x' hst r w' hf
    have hA : x.add e = if code = 0 then (0, { x' with b := { x'.b with seq := e.seq } }) else (code, x') := by
      unfold Pk.add
      rw [if_neg (fun q => q hs), hst]
    obtain ⟨h1, h2⟩ := hf
    rw [hA]
    by_cases hz : code = 0
    · rw [if_pos hz] at h2 ⊢
      exact ⟨by rw [h1, hz], h2⟩
    · rw [if_neg hz] at h2 ⊢
      exact ⟨h1, h2⟩
  cases hi : x.ins with
  | some q =>
    obtain ⟨m, s, k⟩ := q
    have hn := (hx.ins _ hi).1
    by_cases hbad : e.kind ≠ 1 ∨ e.mem ≠ m ∨ e.side ≠ s ∨ e.typ ≠ k
    · have hst : x.step e = (191, x) := by unfold Pk.step; rw [hi]; simp only; rw [if_pos hbad]
      refine (add_insno C x e v1 v2 p6 p7 w h hsb m s k hi ?_).mono (key _ _ hst)
      by_cases q1 : e.kind = 1
      · by_cases q2 : e.mem = m
        · by_cases q3 : e.side = s
          · have q4 : e.typ ≠ k := by rcases hbad with g | g | g | g <;> first | exact absurd q1 g | exact absurd q2 g | exact absurd q3 g | exact g
            exact .inr (.inr (.inr ⟨by simp [q1], by simp [q2], by simp [q3], by simp [q4]⟩))
          · exact .inr (.inr (.inl ⟨by simp [q1], by simp [q2], by simp [q3]⟩))
        · exact .inr (.inl ⟨by simp [q1], by simp [q2]⟩)
      · exact .inl (by simp [q1])
    · have hst : x.step e = acked x e true := by unfold Pk.step; rw [hi]; simp only; rw [if_neg hbad]
      have b1 : (e.kind != 1) = false := by simp; exact Classical.byContradiction fun g => hbad (.inl g)
      have b2 : (e.mem != m) = false := by simp; exact Classical.byContradiction fun g => hbad (.inr (.inl g))
      have b3 : (e.side != s) = false := by simp; exact Classical.byContradiction fun g => hbad (.inr (.inr (.inl g)))
      have b4 : (e.typ != k) = false := by simp; exact Classical.byContradiction fun g => hbad (.inr (.inr (.inr g)))
      exact (add_ins C x e v1 v2 p6 p7 w h hx hw hsb m s k hi hn b1 b2 b3 b4 (acked x e true).1 (acked x e true).2 rfl).mono (key _ _ hst)
  | none =>
    cases hn : x.now with
    | some c =>
      have hst : x.step e = ((next x.b c e).1, ⟨(next x.b c e).2.1, (next x.b c e).2.2, none⟩) := by unfold Pk.step; rw [hi]; simp only; rw [hn]
      exact (addw_next C x e v1 v2 p6 p7 w h hx hw hsb c hn hi _ _ rfl).mono (key _ _ hst)
    | none =>
      by_cases k2 : e.kind = 2
      · have hst : x.step e = (rejected x.b e, x) := by unfold Pk.step; rw [hi]; simp only; rw [hn]; simp only; rw [if_pos k2]
        exact (add_rej C x e v1 v2 p6 p7 w h hx hw hsb hn hi (by simp [k2]) _ rfl).mono (key _ _ hst)
      · by_cases k4 : e.kind = 4
        · have hst : x.step e = cancelled x e := by unfold Pk.step; rw [hi]; simp only; rw [hn]; simp only; rw [if_neg k2, if_pos k4]
          exact (add_can C x e v1 v2 p6 p7 w h hx hw hsb hn hi (by simp [k2]) (by simp [k4]) _ _ rfl).mono (key _ _ hst)
        · by_cases k1 : e.kind = 1
          · have hst : x.step e = acked x e false := by unfold Pk.step; rw [hi]; simp only; rw [hn]; simp only; rw [if_neg k2, if_neg k4, if_pos k1]
            exact (add_ack C x e v1 v2 p6 p7 w h hx hw hsb hn hi (by simp [k2]) (by simp [k4]) (by simp [k1]) _ _ rfl).mono (key _ _ hst)
          · have hst : x.step e = (191, x) := by unfold Pk.step; rw [hi]; simp only; rw [hn]; simp only; rw [if_neg k2, if_neg k4, if_neg k1]
            exact (add_none C x e v1 v2 p6 p7 w h hsb hn hi (by simp [k2]) (by simp [k4]) (by simp [k1])).mono (key _ _ hst)
end Ck
end Go.Proofs.Ytcnkbhgdcfckoaa
