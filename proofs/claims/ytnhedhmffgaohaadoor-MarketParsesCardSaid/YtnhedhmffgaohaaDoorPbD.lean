/- What the law does to the first answer: arguments written over; an append that leaves what was there. -/
import Derived.Test.YtnhedhmffgaohaaDoorPbC
import Derived.Deep.DeepAppendRoom
import Derived.ArgAppend
namespace Go.Proofs.YtnhedhmffgaohaaDoor
open Go.RowKit
namespace Pa
abbrev tStrs : Nat := 27
theorem run_append_keeps {w : World} {base : Nat} {v : Value} {n : Nat} {xs : List Value} (hb : base ≤ w.heap.size) (hown : w.ownsRow base tStr 1 v n xs) (ad : Addr) (m c : Nat) (news : List Value) (hl : news.length = m * 1) (hnews : ∀ j u, news[j]? = some u → w.cell? (ad.add j) = some u)
    (h1 : ∀ u ∈ news, u.oneCell' = true) (hm : 0 < m) (hbig : n + m ≤ 65536) (ty : TypeId) :
    ∃ v' w', (Builtin.append_ #[tStrs, tStrs] ty #[v, .slice (some ad) m c]).run Tryd.prog w = .ok v' w' ∧ w'.ownsRow base tStr 1 v n xs ∧ w.grownBy w' v.ownBlock := by
  obtain ⟨i0, hi0, hz0, hz1, hz2⟩ := info_parts infoS
  have hmx : n + m ≤ maxLen := by unfold maxLen; omega
  rcases hown.2 with ⟨rfl, rfl⟩ | ⟨g, cap, cur, rfl, _⟩
  · obtain ⟨v', w', hrun, _, hg, _⟩ := run_append_own (P := Tryd.prog) w base tStrs ty tStr i0 (.string ⟨#[]⟩) 1 16 Tryd.underlying27 hi0 hz0 hz1 hz2 rfl (by omega) _ 0 xs hown ad m c news hl hnews h1 hmx (by omega) hb
    refine ⟨v', w', hrun, ?_, hg⟩
    have : xs = [] := by have := hown.1; simpa using this
    subst this
    exact own_nil _ _ _ _
  · by_cases hr : n + m ≤ cap
    · obtain ⟨w', hrun, ho, hg⟩ := run_append_own_spare (P := Tryd.prog) (w := w) base tStrs ty tStr i0 1 Tryd.underlying27 hi0 hz1 g n cap xs hown ad m c news hl hnews h1 hr
      refine ⟨_, w', hrun, ?_, hg⟩
      have := own_cut ho (m := n) (by omega) (by omega)
      rw [List.take_append_of_le_length (by have := hown.1; omega), List.take_of_length_le (by have := hown.1; omega)] at this
      exact this
    · obtain ⟨v', w', hrun, _, hg⟩ := run_append_arg_grows (P := Tryd.prog) w tStrs ty tStr i0 (.string ⟨#[]⟩) 1 16 Tryd.underlying27 hi0 hz0 hz1 hz2 rfl (by omega) ⟨g, 0, none⟩ n cap xs hown.1 (fun j u hu => by rw [Lib.add_plain, Nat.zero_add]; exact own_cell hown hu) ad m c news hl hnews (by omega) hmx (by omega)
      refine ⟨v', w', hrun, own_heap hown (row := some g) rfl (fun k hk => ?_), ⟨hg.os, hg.tape, hg.output, hg.size, fun k hk _ => hg.block k hk (by simp)⟩⟩
      injection hk with hk
      subst hk
      exact hg.block _ (own_lt hown rfl) (by simp)
theorem wpList_append_keeps {ops : Array Oper} {rest : List Oper} {o : Oper} {a : Act} {Q : Exit → Act → World → Prop} {w : World} {base : Nat} {v : Value} {n : Nat} {xs : List Value} (hgd : o.guard = none) (s x : Operand)
    (ho : o.op = .call { callee := .builtin .append, args := #[s, x], argTypes := #[tStrs, tStrs] }) (hs : a.eval s = v) (ad : Addr) (m c : Nat) (hx : a.eval x = .slice (some ad) m c) (hb : base ≤ w.heap.size) (hown : w.ownsRow base tStr 1 v n xs)
    (news : List Value) (hl : news.length = m * 1) (hnews : ∀ j u, news[j]? = some u → w.cell? (ad.add j) = some u) (h1 : ∀ u ∈ news, u.oneCell' = true) (hm : 0 < m) (hbig : n + m ≤ 65536)
    (h : ∀ v' w', w'.ownsRow base tStr 1 v n xs → w.grownBy w' v.ownBlock → wpList Tryd.prog ops Q rest (a.put o.dst v') w') : wpList Tryd.prog ops Q (o :: rest) a w := by
  refine wpList_plain hgd fun K hK' => ?_
  obtain ⟨v', w', hrun, r1, r2⟩ := run_append_keeps hb hown ad m c news hl hnews h1 hm hbig o.type
  unfold Oper.wp
  simp [execOp, ho, resolve, invoke, builtin, hs, hx, hrun, Result.andThen]
  exact hK' _ _ (h v' w' r1 r2)
def over : Value := .string ⟨#[119, 114, 105, 116, 116, 101, 110, 32, 111, 118, 101, 114]⟩
/-- The first answer, its arguments written over as far as the k-th of the i-th. -/
structure AInv (w : World) (base : Nat) (v : Value) (ps : List (Sy × Value)) (i k : Nat) : Prop where
  row : w.ownsRow base tSy 3 v ps.length (ps.flatMap sycells)
  args : ∀ j p, ps[j]? = some p → ∃ xs, w.ownsRow base tStr 1 p.2 p.1.args.length xs ∧ ∀ m, m < p.1.args.length → (j < i ∨ (j = i ∧ m < k)) → xs[m]? = some over
theorem AInv.start {w : World} {base : Nat} {v : Value} {ps : List (Sy × Value)} (h : Says w base v ps) : AInv w base v ps 0 0 :=
  ⟨h.row, fun j p hp => ⟨_, h.args p (List.mem_of_getElem? hp), fun m _ hc => by omega⟩⟩
theorem AInv.nil {w w1 : World} {base : Nat} {v : Value} {ps : List (Sy × Value)} {i k : Nat} (h : AInv w base v ps i k) (ho : Only Nil w w1) : AInv w1 base v ps i k :=
  ⟨own_only h.row ho (fun _ _ h => h), fun j p hp => by
    obtain ⟨xs, h1, h2⟩ := h.args j p hp
    exact ⟨xs, own_only h1 ho (fun _ _ h => h), h2⟩⟩
/-- Two sayings' arguments lie apart. -/
theorem apart_ne {ps : List (Sy × Value)} (ha : ps.Pairwise (fun p q => ∀ b, p.2.ownBlock = some b → q.2.ownBlock ≠ some b)) {i j : Nat} {p q : Sy × Value} (hi : ps[i]? = some p) (hj : ps[j]? = some q) (hne : i ≠ j) {b : Nat} (hb : p.2.ownBlock = some b) : q.2.ownBlock ≠ some b := by
  obtain ⟨h1, rfl⟩ := List.getElem?_eq_some_iff.1 hi
  obtain ⟨h2, rfl⟩ := List.getElem?_eq_some_iff.1 hj
  rcases Nat.lt_or_gt_of_ne hne with h | h
  · exact List.pairwise_iff_getElem.1 ha i j h1 h2 h b hb
  · intro e
    exact List.pairwise_iff_getElem.1 ha j i h2 h1 h b e hb
theorem AInv.step {w : World} {base g c : Nat} {v : Value} {ps : List (Sy × Value)} {i k : Nat} {p : Sy × Value} (h : AInv w base v ps i k) (ha : ps.Pairwise (fun p q => ∀ b, p.2.ownBlock = some b → q.2.ownBlock ≠ some b)) (hp : ps[i]? = some p)
    (hv : p.2 = .slice (some ⟨g, 0, none⟩) p.1.args.length c) (hk : k < p.1.args.length) : AInv (w.setCell ⟨g, k, none⟩ over) base v ps i (k + 1) := by
  obtain ⟨xs, hx, hd⟩ := h.args i p hp
  have hgb : p.2.ownBlock = some g := by rw [hv]; rfl
  refine ⟨own_far h.row (p := ⟨g, k, none⟩) (fun e => own_own_ne h.row hx (show tSy ≠ tStr by decide) e hgb) _, fun j q hq => ?_⟩
  by_cases hj : i = j
  · subst hj
    rw [hp] at hq
    injection hq with hq
    subst hq
    rw [hv] at hx
    refine ⟨xs.set k over, by rw [hv]; exact own_set hx k over, fun m hm hc => ?_⟩
    rw [List.getElem?_set]
    have hlen : xs.length = p.1.args.length := by have := hx.1; omega
    by_cases hkm : k = m
    · subst hkm; rw [if_pos rfl, if_pos (by omega)]
    · rw [if_neg hkm]; exact hd m hm (by omega)
  · obtain ⟨ys, h1, h2⟩ := h.args j q hq
    exact ⟨ys, own_far h1 (p := ⟨g, k, none⟩) (apart_ne ha hp hq hj hgb) _, fun m hm hc => h2 m hm (by omega)⟩
theorem AInv.next {w : World} {base : Nat} {v : Value} {ps : List (Sy × Value)} {i k : Nat} {p : Sy × Value} (h : AInv w base v ps i k) (hp : ps[i]? = some p) (hk : p.1.args.length ≤ k) : AInv w base v ps (i + 1) 0 :=
  ⟨h.row, fun j q hq => by
    obtain ⟨xs, h1, h2⟩ := h.args j q hq
    refine ⟨xs, h1, fun m hm hc => h2 m hm ?_⟩
    by_cases hj : j = i
    · subst hj
      rw [hp] at hq
      injection hq with hq
      subst hq
      exact .inr ⟨rfl, by omega⟩
    · exact .inl (by omega)⟩
/-- An append upon one saying's arguments: all is kept. -/
theorem AInv.grown {w w1 : World} {base : Nat} {v : Value} {ps : List (Sy × Value)} {i k l : Nat} {p : Sy × Value} {xs : List Value} (h : AInv w base v ps i k) (ha : ps.Pairwise (fun p q => ∀ b, p.2.ownBlock = some b → q.2.ownBlock ≠ some b)) (hp : ps[l]? = some p)
    (hx : w.ownsRow base tStr 1 p.2 p.1.args.length xs) (hd : ∀ m, m < p.1.args.length → (l < i ∨ (l = i ∧ m < k)) → xs[m]? = some over) (hg : w.grownBy w1 p.2.ownBlock) (hx1 : w1.ownsRow base tStr 1 p.2 p.1.args.length xs) : AInv w1 base v ps i k := by
  have ho : Only (Row p.2) w w1 := (Only.refl _ _).grown hg (fun k hk _ => hk)
  refine ⟨own_only h.row ho (fun k hk hs => own_own_ne h.row hx (show tSy ≠ tStr by decide) hk hs), fun j q hq => ?_⟩
  by_cases hj : l = j
  · subst hj
    rw [hp] at hq
    injection hq with hq
    subst hq
    exact ⟨xs, hx1, hd⟩
  · obtain ⟨ys, h1, h2⟩ := h.args j q hq
    exact ⟨ys, own_only h1 ho (fun k hk hs => apart_ne ha hp hq hj hs hk), h2⟩
def rN : PRes → Nat
  | .bad n _ _ => n
  | .good _ => 0
def rA : PRes → Nat
  | .bad _ a _ => a
  | .good _ => 0
def rC : PRes → Nat
  | .bad _ _ c => c
  | .good _ => 0
def rL : PRes → List Sy
  | .bad _ _ _ => []
  | .good l => l
theorem pout {r : PRes} {base : Nat} {e : Ending} {w : World} (h : POut r base e w) : ∃ v ps, ps.map (·.1) = rL r ∧ e = .returned (.tuple #[v, .int .i64 (rN r : Int), .int .i64 (rA r : Int), .int .i64 (rC r : Int)]) ∧ Says w base v ps := by
  cases r with
  | bad n a c => exact ⟨_, [], rfl, h, Says.none _ _⟩
  | good l =>
    obtain ⟨v, ps, h1, h2, h3⟩ := h
    exact ⟨v, ps, h1, h2, h3⟩
end Pa
end Go.Proofs.YtnhedhmffgaohaaDoor
