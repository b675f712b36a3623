/- '==' of events, of orders, of configs. -/
import Derived.Test.YtcnkbhgdcfckoaaMd
import Derived.Laws.StructEq
set_option linter.unusedVariables false
set_option linter.unusedSimpArgs false
namespace Go.Proofs.Ytcnkbhgdcfckoaa
open Go.RowKit
namespace Ck
section
variable {P : Program} {d : Nat} {xs ys : Array Value} {f : Field} {fs : List Field} {k k' : IntKind} {a b : Int} {s : Bool} {w : World}
theorem eqf_int (hn : (f.name == "_") = false) (hu : P.underlying f.type = some (.int k')) (ha : (part f.type xs f.offset).run P w = .ok (.int k a) w) (hb : (part f.type ys f.offset).run P w = .ok (.int k b) w)
    (hr : (Op.eqFields (d + 1) xs ys fs).run P w = .ok s w) : (Op.eqFields (d + 1) xs ys (f :: fs)).run P w = .ok ((a == b) && s) w := by
  have hn' : f.name ≠ "_" := by simpa using hn
  have he := run_equalIn_int (P := P) (w := w) d f.type k k' a b hu
  rw [Op.eqFields]
  simp only [if_pos hn', Sem.run_bind, ha, hb, he, Result.andThen_ok]
  cases (a == b)
  · simp
  · simpa using hr
theorem eqf_done : (Op.eqFields d xs ys []).run P w = .ok true w := by simp [Op.eqFields]
end
def Ev.eq (e f : Ev) : Bool := (e.seq == f.seq) && ((e.kind == f.kind) && ((e.id == f.id) && ((e.other == f.other) && ((e.target == f.target) && ((e.mem == f.mem) && ((e.side == f.side) && ((e.typ == f.typ) && ((e.price == f.price) && ((e.qty == f.qty) && ((e.peak == f.peak) && ((e.reason == f.reason) && ((e.code == f.code) && true))))))))))))
theorem Ev.eq_iff (e f : Ev) : e.eq f = decide (e = f) := by
  by_cases h : e = f
  · subst h; simp [Ev.eq]
  · have : e.eq f = false := by
      cases hq : e.eq f with
      | false => rfl
      | true =>
        unfold Ev.eq at hq
        simp only [Bool.and_eq_true, beq_iff_eq, and_true] at hq
        obtain ⟨h0, h1, h2, h3, h4, h5, h6, h7, h8, h9, h10, h11, h12⟩ := hq
        cases e; cases f
        simp only at h0 h1 h2 h3 h4 h5 h6 h7 h8 h9 h10 h11 h12
        subst h0 h1 h2 h3 h4 h5 h6 h7 h8 h9 h10 h11 h12
        exact absurd rfl h
    rw [this]; simp [h]
def Rs.eq (e f : Rs) : Bool := (e.id == f.id) && ((e.mem == f.mem) && ((e.typ == f.typ) && ((e.price == f.price) && ((e.vis == f.vis) && ((e.hid == f.hid) && ((e.peak == f.peak) && true))))))
theorem Rs.eq_iff (e f : Rs) : e.eq f = decide (e = f) := by
  by_cases h : e = f
  · subst h; simp [Rs.eq]
  · have : e.eq f = false := by
      cases hq : e.eq f with
      | false => rfl
      | true =>
        unfold Rs.eq at hq
        simp only [Bool.and_eq_true, beq_iff_eq, and_true] at hq
        obtain ⟨h0, h1, h2, h3, h4, h5, h6⟩ := hq
        cases e; cases f
        simp only at h0 h1 h2 h3 h4 h5 h6
        subst h0 h1 h2 h3 h4 h5 h6
        exact absurd rfl h
    rw [this]; simp [h]
set_option maxRecDepth 100000 in
theorem run_ev_fields (e f : Ev) (d : Nat) (w : World) : (Op.eqFields (d + 1) e.row f.row (Try.prog.fieldsOf tEvt).toList).run Try.prog w = .ok (e.eq f) w := by
  have hf : (Try.prog.fieldsOf tEvt).toList = _ := congrArg Array.toList (by simp [Program.fieldsOf, Try.underlying37]; rfl)
  rw [hf]
  unfold Ev.eq
  refine eqf_int (k := .u64) (k' := .u64) rfl (by kernel_rfl) (by kernel_rfl) (by kernel_rfl) ?_
  refine eqf_int (k := .i64) (k' := .i64) rfl (by kernel_rfl) (by kernel_rfl) (by kernel_rfl) ?_
  refine eqf_int (k := .u64) (k' := .u64) rfl (by kernel_rfl) (by kernel_rfl) (by kernel_rfl) ?_
  refine eqf_int (k := .u64) (k' := .u64) rfl (by kernel_rfl) (by kernel_rfl) (by kernel_rfl) ?_
  refine eqf_int (k := .u64) (k' := .u64) rfl (by kernel_rfl) (by kernel_rfl) (by kernel_rfl) ?_
  refine eqf_int (k := .u32) (k' := .u32) rfl (by kernel_rfl) (by kernel_rfl) (by kernel_rfl) ?_
  refine eqf_int (k := .i64) (k' := .i64) rfl (by kernel_rfl) (by kernel_rfl) (by kernel_rfl) ?_
  refine eqf_int (k := .i64) (k' := .i64) rfl (by kernel_rfl) (by kernel_rfl) (by kernel_rfl) ?_
  refine eqf_int (k := .i64) (k' := .i64) rfl (by kernel_rfl) (by kernel_rfl) (by kernel_rfl) ?_
  refine eqf_int (k := .u64) (k' := .u64) rfl (by kernel_rfl) (by kernel_rfl) (by kernel_rfl) ?_
  refine eqf_int (k := .u64) (k' := .u64) rfl (by kernel_rfl) (by kernel_rfl) (by kernel_rfl) ?_
  refine eqf_int (k := .i64) (k' := .i64) rfl (by kernel_rfl) (by kernel_rfl) (by kernel_rfl) ?_
  refine eqf_int (k := .i64) (k' := .i64) rfl (by kernel_rfl) (by kernel_rfl) (by kernel_rfl) ?_
  exact eqf_done
set_option maxRecDepth 100000 in
theorem run_rs_fields (e f : Rs) (d : Nat) (w : World) : (Op.eqFields (d + 1) e.row f.row (Try.prog.fieldsOf tR).toList).run Try.prog w = .ok (e.eq f) w := by
  have hf : (Try.prog.fieldsOf tR).toList = _ := congrArg Array.toList (by simp [Program.fieldsOf, Try.underlying50]; rfl)
  rw [hf]
  unfold Rs.eq
  refine eqf_int (k := .u64) (k' := .u64) rfl (by kernel_rfl) (by kernel_rfl) (by kernel_rfl) ?_
  refine eqf_int (k := .u32) (k' := .u32) rfl (by kernel_rfl) (by kernel_rfl) (by kernel_rfl) ?_
  refine eqf_int (k := .i64) (k' := .i64) rfl (by kernel_rfl) (by kernel_rfl) (by kernel_rfl) ?_
  refine eqf_int (k := .i64) (k' := .i64) rfl (by kernel_rfl) (by kernel_rfl) (by kernel_rfl) ?_
  refine eqf_int (k := .u64) (k' := .u64) rfl (by kernel_rfl) (by kernel_rfl) (by kernel_rfl) ?_
  refine eqf_int (k := .u64) (k' := .u64) rfl (by kernel_rfl) (by kernel_rfl) (by kernel_rfl) ?_
  refine eqf_int (k := .u64) (k' := .u64) rfl (by kernel_rfl) (by kernel_rfl) (by kernel_rfl) ?_
  exact eqf_done
theorem run_ev_in (e f : Ev) (d : Nat) (w : World) : (Op.equalIn (d + 2) tEvt (.agg e.row) (.agg f.row)).run Try.prog w = .ok (decide (e = f)) w := by
  rw [run_equalIn_agg (P := Try.prog) (w := w) (d + 1) tEvt e.row f.row (by simp [Program.fieldsOf, Try.underlying37]) (by kernel_rfl), run_ev_fields, Ev.eq_iff]
theorem run_rs_in (e f : Rs) (d : Nat) (w : World) : (Op.equalIn (d + 2) tR (.agg e.row) (.agg f.row)).run Try.prog w = .ok (decide (e = f)) w := by
  rw [run_equalIn_agg (P := Try.prog) (w := w) (d + 1) tR e.row f.row (by simp [Program.fieldsOf, Try.underlying50]) (by kernel_rfl), run_rs_fields, Rs.eq_iff]
theorem run_ev_neq (e f : Ev) (w : World) : (binOp .neq tEvt (.agg e.row) (.agg f.row)).run Try.prog w = .ok (.bool (!decide (e = f))) w := by
  rw [run_neq_struct, run_ev_in e f 9998 w]
  rfl
theorem run_ev_eql (e f : Ev) (w : World) : (binOp .eql tEvt (.agg e.row) (.agg f.row)).run Try.prog w = .ok (.bool (decide (e = f))) w := by
  rw [run_eql_struct, run_ev_in e f 9998 w]
  rfl
theorem run_rs_neq (e f : Rs) (w : World) : (binOp .neq tR (.agg e.row) (.agg f.row)).run Try.prog w = .ok (.bool (!decide (e = f))) w := by
  rw [run_neq_struct, run_rs_in e f 9998 w]
  rfl
section
variable {ops : Array Oper} {rest : List Oper} {o : Oper} {a : Act} {w : World} {Q : Exit → Act → World → Prop}
/-- An operation on two values, for the walk. -/
theorem wpList_bin (hgd : o.guard = none) (op : BinOp) (t t' : TypeId) (x y : Operand) (ho : o.op = .binOp op t x y t') (u v r : Value) (hx : a.eval x = u) (hy : a.eval y = v)
    (hg : (eqGuard op t x y u v).run Try.prog w = .ok () w) (hr : (binOp op t u v).run Try.prog w = .ok r w) (h : wpList Try.prog ops Q rest (a.put o.dst r) w) : wpList Try.prog ops Q (o :: rest) a w :=
  wpList_plain hgd fun _ hK => by
    unfold Oper.wp execOp
    simp only [ho, hx, hy, hg, Sem.run_bind, Sem.run_pure, Result.andThen_ok, hr]
    exact hK _ _ h
theorem guardEv : Try.prog.eqGuardType Try.prog.depth tEvt = false := by kernel_rfl
theorem wpList_ev_neq (hgd : o.guard = none) (x y : Operand) (ho : o.op = .binOp .neq tEvt x y tEvt) (e f : Ev) (hx : a.eval x = .agg e.row) (hy : a.eval y = .agg f.row)
    (h : wpList Try.prog ops Q rest (a.put o.dst (.bool (!decide (e = f)))) w) : wpList Try.prog ops Q (o :: rest) a w :=
  wpList_bin hgd .neq tEvt tEvt x y ho _ _ _ hx hy (run_eqGuard_agg w _ _ _ _ _ _ guardEv) (run_ev_neq e f w) h
theorem guardRs : Try.prog.eqGuardType Try.prog.depth tR = false := by kernel_rfl
theorem wpList_rs_neq (hgd : o.guard = none) (x y : Operand) (ho : o.op = .binOp .neq tR x y tR) (e f : Rs) (hx : a.eval x = .agg e.row) (hy : a.eval y = .agg f.row)
    (h : wpList Try.prog ops Q rest (a.put o.dst (.bool (!decide (e = f)))) w) : wpList Try.prog ops Q (o :: rest) a w :=
  wpList_bin hgd .neq tR tR x y ho _ _ _ hx hy (run_eqGuard_agg w _ _ _ _ _ _ guardRs) (run_rs_neq e f w) h
end
end Ck
end Go.Proofs.Ytcnkbhgdcfckoaa
