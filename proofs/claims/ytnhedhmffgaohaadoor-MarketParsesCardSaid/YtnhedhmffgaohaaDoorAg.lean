/- Aggregates of many cells, made, stored and loaded whole: laws for the walk. -/
import Derived.Test.YtnhedhmffgaohaaDoorBase
import Derived.Test.YtnhedhmffgaohaaDoorProg
import Derived.WalkKit
import Derived.Deep.MidRow
namespace Go.Proofs.YtnhedhmffgaohaaDoor
open Go.RowKit
section
variable {ops : Array Oper} {rest : List Oper} {o : Oper} {a : Act} {w : World} {Q : Exit → Act → World → Prop}
/-- What an 'alloc' of type T lays. -/
def Lays (T : TypeId) (Z : Array Value) : Prop := ∀ W, (Instr.alloc T true (.tuple #[])).run Tryd.prog W = .ok (.pointer (some ⟨W.heap.size, 0, none⟩)) (W.alloc (.cells Z T))
theorem wpList_alloc_agg (hgd : o.guard = none) (T : TypeId) (ho : o.op = .alloc T) (Z : Array Value) (hz : Lays T Z)
    (h : wpList Tryd.prog ops Q rest (a.put o.dst (.pointer (some ⟨w.heap.size, 0, none⟩))) (w.alloc (.cells Z T))) : wpList Tryd.prog ops Q (o :: rest) a w :=
  wpList_plain hgd fun _ hK => by
    unfold Oper.wp execOp
    simp only [ho, Sem.run_bind, Sem.run_pure, Result.andThen_ok, hz w]
    exact hK _ _ h
theorem wpList_store_row (hgd : o.guard = none) (T : TypeId) (x y : Operand) (ho : o.op = .store T x y) (g : Nat) (hx : a.eval x = .pointer (some ⟨g, 0, none⟩)) (cs old : Array Value) (hy : a.eval y = .agg cs) (t : TypeId)
    (hg : w.heap[g]? = some (.cells old t (0, 0))) (hi : (Tryd.prog.info? T).map (·.size) = some cs.size) (hs : old.size = cs.size) (h1 : cs.all (·.oneCell') = true)
    (h : wpList Tryd.prog ops Q rest (a.put o.dst undef) (w.setRow g cs)) : wpList Tryd.prog ops Q (o :: rest) a w :=
  wpList_plain hgd fun _ hK => by
    unfold Oper.wp execOp
    have hr := run_storeVar_row (P := Tryd.prog) w g t T old cs hg hi hs h1
    simp only [ho, hx, hy, Instr.storeAt, Instr.sureAddr, Sem.run_bind, Sem.run_pure, Result.andThen_ok, hr]
    exact hK _ _ h
theorem setRow_alloc (W : World) (a b : Array Value) (t : TypeId) : (W.alloc (.cells a t)).setRow W.heap.size b = W.alloc (.cells b t) := by
  unfold World.setRow World.alloc
  congr 1
  apply Array.ext_getElem?
  intro k
  simp only [Array.getElem?_modify, Array.getElem?_push]
  by_cases h : W.heap.size = k
  · subst h; simp
  · rw [if_neg h, if_neg (fun e => h e.symm), if_neg (fun e => h e.symm)]
/-- A variable is made and stored at once: the block comes as it is stored. -/
theorem wpList_alloc_store {o2 : Oper} (hgd : o.guard = none) (T : TypeId) (ho : o.op = .alloc T) (p : Tmp) (hd : o.dst = some p) (Z : Array Value) (hz : Lays T Z)
    (hgd2 : o2.guard = none) (y : Operand) (ho2 : o2.op = .store T (.tmp p) y) (hd2 : o2.dst = none) (cs : Array Value)
    (hx : (a.put (some p) (.pointer (some ⟨w.heap.size, 0, none⟩))).eval (.tmp p) = .pointer (some ⟨w.heap.size, 0, none⟩))
    (hy : (a.put (some p) (.pointer (some ⟨w.heap.size, 0, none⟩))).eval y = .agg cs) (hi : (Tryd.prog.info? T).map (·.size) = some cs.size) (hs : Z.size = cs.size) (h1 : cs.all (·.oneCell') = true)
    (h : wpList Tryd.prog ops Q rest (a.put (some p) (.pointer (some ⟨w.heap.size, 0, none⟩))) (w.alloc (.cells cs T))) : wpList Tryd.prog ops Q (o :: o2 :: rest) a w := by
  refine wpList_alloc_agg hgd T ho Z hz ?_
  rw [hd]
  refine wpList_store_row hgd2 T (.tmp p) y ho2 w.heap.size hx cs Z hy T (heap_alloc_new w _) hi hs h1 ?_
  rw [setRow_alloc, hd2]
  exact h
theorem wpList_build_agg (hgd : o.guard = none) (T : TypeId) (parts : Array (Nat × Operand)) (ho : o.op = .build T parts) (vals : Array (Nat × Value)) (hv : parts.map (fun (i, x) => (i, a.eval x)) = vals) (v : Value)
    (hb : ∀ W, (Instr.build T vals).run Tryd.prog W = .ok v W) (h : wpList Tryd.prog ops Q rest (a.put o.dst v) w) : wpList Tryd.prog ops Q (o :: rest) a w :=
  wpList_plain hgd fun _ hK => by
    unfold Oper.wp execOp
    simp only [ho]
    rw [hv]
    simp only [Sem.run_bind, Sem.run_pure, Result.andThen_ok, hb w]
    exact hK _ _ h
end
theorem blk_setRow {w : World} {g : Nat} {t : TypeId} {cs : Array Value} (h : w.heap[g]? = some (.cells cs t (0, 0))) (c : Array Value) : (w.setRow g c).heap[g]? = some (.cells c t (0, 0)) := setRow_heap w g cs c t _ h
theorem blk_setRow_far {w : World} {g k : Nat} {o : Obj} (h : w.heap[k]? = some o) (hne : k ≠ g) (c : Array Value) : (w.setRow g c).heap[k]? = some o := (setRow_other w g k c hne).trans h
theorem Only.setRow {S : Nat → Prop} {w w1 : World} (h : Only S w w1) {g : Nat} (hg : S g ∨ w.heap.size ≤ g) (c : Array Value) : Only S w (w1.setRow g c) :=
  ⟨h.os, h.tape, h.output, by rw [size_setRow]; exact h.size, fun i hi hs => (setRow_other w1 g i c (fun e => by
    subst e
    rcases hg with hg | hg
    · exact hs hg
    · omega)).trans (h.block i hi hs)⟩
/-- Two results, the first an aggregate in a variable. -/
theorem results_agg_tmp {fn : Func} {p u : Tmp} {ty : TypeId} (h : fn.results = #[.cell p ty, .tmp u]) (tmps : Array Value) (w : World) (g : Nat) (t : TypeId) (cs : Array Value) (fr : Nat × Nat) (d : TypeDesc)
    (hp : tmps.getD p undef = .pointer (some ⟨g, 0, none⟩)) (x : Value) (hx : tmps.getD u undef = x) (hg : w.heap[g]? = some (.cells cs t fr))
    (hu : Tryd.prog.underlying ty = some d) (hd : d.isRow = true) (hi : (Tryd.prog.info? ty).map (·.size) = some cs.size) :
    (results fn tmps).run Tryd.prog w = .ok (.tuple #[.agg cs, x]) w := by
  have hl : (loadVar ty ⟨g, 0, none⟩).run Tryd.prog w = .ok (.agg cs) w := run_loadVar_row w g t ty cs fr d hg hu (by cases d <;> first | rfl | simp [TypeDesc.isRow] at hd) hi
  rw [results_cell_tmp h]
  simp only [hp, hx, asAddr, Sem.run_pure, Result.andThen_ok, hl]
end Go.Proofs.YtnhedhmffgaohaaDoor
