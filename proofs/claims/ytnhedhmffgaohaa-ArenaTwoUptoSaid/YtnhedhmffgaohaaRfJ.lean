/- The walks of the document's Pop and Sweep; what each round of them makes of the plain state. -/
import Derived.Test.YtnhedhmffgaohaaRfF
import Derived.Test.YtnhedhmffgaohaaRfG
import Derived.Deep.Upon
namespace Go.Proofs.Ytnhedhmffgaohaa
open Go.RowKit

/-! ### The plain part -/
section
variable {r : Rf} {q : Nat} {P M : List Nat} {j : Nat} {x : Pl}
theorem swept_nil (hL : r.queues[q]? = some M) : r.swept q [] M = r := by
  obtain ⟨hq, e⟩ := List.getElem?_eq_some_iff.1 hL
  refine rf_ext ?_ ?_ rfl ?_
  · show sweptPl [] r.places = r.places
    unfold sweptPl
    refine List.ext_getElem? fun k => ?_
    rw [List.getElem?_mapIdx]
    cases r.places[k]? <;> simp
  · show r.dropped ++ [] = _
    simp
  · show r.queues.set q ([] ++ M) = _
    rw [List.nil_append, ← e, List.set_getElem_self]
theorem swept_at (hP : j ∉ P) (hx : r.places[j]? = some x) : (r.swept q P M).places[j]? = some x := by
  show (sweptPl P r.places)[j]? = _
  unfold sweptPl
  rw [List.getElem?_mapIdx, hx]
  simp [hP]
theorem swept_queue (hq : q < r.queues.length) : (r.swept q P M).queues[q]? = some (P.filter (fun k => !deadAt r.places k) ++ M) := List.getElem?_set_self hq
theorem deadAt_at (hx : r.places[j]? = some x) : deadAt r.places j = x.dead := by unfold deadAt; rw [hx]
theorem swept_len : (r.swept q P M).places.length = r.places.length := by show (sweptPl P r.places).length = _; simp [sweptPl]
/-- The next one lives. -/
theorem swept_keep (hx : r.places[j]? = some x) (hd : x.dead = false) : r.swept q P (j :: M) = r.swept q (P ++ [j]) M := by
  have hda : deadAt r.places j = false := by rw [deadAt_at hx, hd]
  refine rf_ext ?_ ?_ rfl ?_
  · show sweptPl P r.places = sweptPl (P ++ [j]) r.places
    unfold sweptPl
    refine List.ext_getElem? fun k => ?_
    rw [List.getElem?_mapIdx, List.getElem?_mapIdx]
    by_cases hk : k = j
    · subst hk; rw [hx]; simp [hd]
    · simp [hk]
  · show r.dropped ++ P.filter _ = r.dropped ++ (P ++ [j]).filter _
    rw [List.filter_append]; simp [hda]
  · show r.queues.set q _ = r.queues.set q _
    rw [List.filter_append]; simp [hda]
/-- The next one is dead: it is taken out and given back. -/
theorem swept_drop (hnd : (P ++ j :: M).Nodup) (hx : r.places[j]? = some x) (hd : x.dead = true) :
    ((r.swept q P (j :: M)).out q j x (P.filter (fun k => !deadAt r.places k) ++ j :: M)).gives j { x with inn := 0, dead := false } = r.swept q (P ++ [j]) M := by
  have hj := (List.getElem?_eq_some_iff.1 hx).1
  have hda : deadAt r.places j = true := by rw [deadAt_at hx, hd]
  rw [List.nodup_append, List.nodup_cons] at hnd
  obtain ⟨_, ⟨n2, _⟩, n4⟩ := hnd
  have hjP : j ∉ P := fun hm => n4 j hm j (by simp) rfl
  refine rf_ext (List.ext_getElem? fun k => ?_) ?_ rfl ?_
  · show (((sweptPl P r.places).set j _).set j _)[k]? = (sweptPl (P ++ [j]) r.places)[k]?
    rw [List.set_set]
    by_cases hk : k = j
    · subst hk
      rw [List.getElem?_set_self (by simpa [sweptPl] using hj)]
      unfold sweptPl
      rw [List.getElem?_mapIdx, hx]
      simp [hd, Pl.gone]
    · rw [List.getElem?_set_ne (fun e => hk e.symm)]
      unfold sweptPl
      rw [List.getElem?_mapIdx, List.getElem?_mapIdx]
      simp [hk]
  · show r.dropped ++ P.filter _ ++ [j] = r.dropped ++ (P ++ [j]).filter _
    rw [List.filter_append]; simp [hda]
  · show (r.queues.set q _).set q _ = r.queues.set q _
    rw [List.set_set]
    congr 1
    have h1 : (P.filter (fun k => !deadAt r.places k)).filter (fun k => k != j) = P.filter (fun k => !deadAt r.places k) := List.filter_eq_self.2 (fun k hk => by simp; intro e; subst e; exact hjP (List.mem_filter.1 hk).1)
    have h2 : M.filter (fun k => k != j) = M := List.filter_eq_self.2 (fun k hk => by simp; intro e; subst e; exact n2 hk)
    show (P.filter (fun k => !deadAt r.places k) ++ j :: M).filter (fun k => k != j) = (P ++ [j]).filter (fun k => !deadAt r.places k) ++ M
    rw [List.filter_append, List.filter_cons, List.filter_append, h1, h2]
    simp [hda]
end

namespace Rfw
/-- One round: out, and gives. -/
theorem RStep.rep {w w' : World} {D : Nat} {p : Rp} {r' : Rf} (h : RStep w D p r' w') : ∃ p', RfIs w' D r' p' := let ⟨p', h1, _⟩ := h; ⟨p', h1⟩

/-! ### append of nothing -/
theorem wpList_append_zero {w : World} {ops : Array Oper} {rest : List Oper} {o : Oper} {a : Act} {Q : Exit → Act → World → Prop} (hgd : o.guard = none) (s x : Operand) (t : TypeId)
    (ho : o.op = .call { callee := .builtin .append, args := #[s, x], argTypes := #[t, t] })
    (e : TypeId) (i : TypeInfo) (ht : Try.prog.underlying t = some (.slice e)) (hi : Try.prog.info? e = some i)
    (b : Option Addr) (n c : Nat) (hnc : n ≤ c) (hs : a.eval s = .slice b n c) (A : Option Addr) (c' : Nat) (hx : a.eval x = .slice A 0 c')
    (h : wpList Try.prog ops Q rest (a.put o.dst (.slice b n c)) w) : wpList Try.prog ops Q (o :: rest) a w := by
  refine wpList_plain hgd fun K hK => ?_
  have hsrc : Src Try.prog i.size t (.slice A 0 c') 0 [] w := by
    cases A with
    | none => exact Src.ofNil w ht c'
    | some ad => exact Src.ofSlice w ht ad 0 c' [] (by simp) (fun j u hu => by simp at hu) (fun u hu => by simp at hu)
  have hrun := run_append_nothing w t t o.type e i ht hi b n c hnc (.slice A 0 c') hsrc
  unfold Oper.wp
  simp [execOp, ho, resolve, invoke, builtin, hs, hx, hrun, Result.andThen]
  exact hK _ _ h
end Rfw
end Go.Proofs.Ytnhedhmffgaohaa
