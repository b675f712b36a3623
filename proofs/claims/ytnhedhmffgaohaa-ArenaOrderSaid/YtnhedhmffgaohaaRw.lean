/- Rows at any offset: what 'xs = xs[1:]' leaves, read and appended to. No program in sight. -/
import Derived.Test.YtnhedhmffgaohaaBase
import Derived.ArgAppend
namespace Go.Proofs.Ytnhedhmffgaohaa
open Go.RowKit

/-- v is a row of n elements, the cells xs, in a block at base or behind it. -/
def RowAt (w : World) (base : Nat) (e : TypeId) (size : Nat) (v : Value) (n : Nat) (xs : List Value) : Prop :=
  xs.length = n * size ∧ ((∃ A, v = .slice A 0 0 ∧ n = 0) ∨
    ∃ g off cap cs, v = .slice (some ⟨g, off, none⟩) n cap ∧ base ≤ g ∧ w.heap[g]? = some (.cells cs e (0, 0)) ∧ n ≤ cap ∧ cap ≤ maxLen ∧ off + cap * size ≤ cs.size ∧ ∀ j, j < n * size → cs[off + j]? = xs[j]?)

section
variable {w w1 : World} {base : Nat} {e : TypeId} {size n : Nat} {v : Value} {xs : List Value}
theorem RowAt.of_own (h : w.ownsRow base e size v n xs) : RowAt w base e size v n xs := by
  refine ⟨h.1, ?_⟩
  rcases h.2 with ⟨rfl, rfl⟩ | ⟨g, cap, cur, rfl, hb, hg, hnc, hm, hs, ht⟩
  · exact .inl ⟨_, rfl, rfl⟩
  · refine .inr ⟨g, 0, cap, cur, rfl, hb, hg, hnc, hm, by omega, fun j hj => ?_⟩
    rw [← ht, List.getElem?_take, if_pos hj, Nat.zero_add]
    simp
theorem RowAt.mono {base' : Nat} (h : RowAt w base e size v n xs) (hb : base' ≤ base) : RowAt w base' e size v n xs :=
  ⟨h.1, h.2.imp id fun ⟨g, off, cap, cs, h1, h2, h3⟩ => ⟨g, off, cap, cs, h1, Nat.le_trans hb h2, h3⟩⟩
theorem RowAt.slice (h : RowAt w base e size v n xs) : ∃ A c, v = .slice A n c ∧ n ≤ c := by
  rcases h.2 with ⟨A, rfl, rfl⟩ | ⟨g, off, cap, cs, rfl, _, _, hnc, _⟩
  · exact ⟨_, _, rfl, Nat.le_refl _⟩
  · exact ⟨_, _, rfl, hnc⟩
theorem RowAt.row (h : RowAt w base e size v n xs) (hn : 0 < n) : ∃ g off c, v = .slice (some ⟨g, off, none⟩) n c ∧ base ≤ g ∧ g < w.heap.size ∧ n ≤ c ∧ (∀ j, j < n * size → w.cell? ⟨g, off + j, none⟩ = xs[j]?) ∧
    (∃ cs, w.heap[g]? = some (.cells cs e (0, 0))) := by
  rcases h.2 with ⟨A, rfl, rfl⟩ | ⟨g, off, cap, cs, rfl, hb, hg, hnc, _, _, hc⟩
  · omega
  · exact ⟨g, off, cap, rfl, hb, blk_lt hg, hnc, fun j hj => by rw [blk_cell hg, hc j hj], cs, hg⟩
theorem RowAt.only {S : Nat → Prop} (h : RowAt w base e size v n xs) (ho : Only S w w1) (hs : ∀ b, base ≤ b → Ty w b e → b < w.heap.size → ¬ S b ∨ n = 0 ∧ v.ownBlock ≠ some b) : RowAt w1 base e size v n xs := by
  refine ⟨h.1, ?_⟩
  rcases h.2 with h2 | ⟨g, off, cap, cs, rfl, hb, hg, r⟩
  · exact .inl h2
  · refine .inr ⟨g, off, cap, cs, rfl, hb, ho.blk hg ?_, r⟩
    rcases hs g hb (blk_ty hg) (blk_lt hg) with h1 | h1
    · exact h1
    · exact absurd rfl h1.2
theorem RowAt.nil (h : RowAt w base e size v n xs) (ho : Only Nil w w1) : RowAt w1 base e size v n xs := h.only ho fun _ _ _ _ => .inl (fun h => h)
/-- What turns lies in blocks of other types. -/
theorem RowAt.apart {S : Nat → Prop} (h : RowAt w base e size v n xs) (ho : Only S w w1) (hs : ∀ b, S b → ∃ t, Ty w b t ∧ t ≠ e) : RowAt w1 base e size v n xs := by
  refine ⟨h.1, ?_⟩
  rcases h.2 with h2 | ⟨g, off, cap, cs, rfl, hb, hg, r⟩
  · exact .inl h2
  · exact .inr ⟨g, off, cap, cs, rfl, hb, blk_apart hg ho hs, r⟩
/-- 'xs[1:]'. -/
theorem RowAt.tail {g off c : Nat} (h : RowAt w base e size (.slice (some ⟨g, off, none⟩) n c) n xs) (hn : 0 < n) : RowAt w base e size (.slice (if c = 1 then some ⟨g, off, none⟩ else some ⟨g, off + size, none⟩) (n - 1) (c - 1)) (n - 1) (xs.drop size) := by
  have hl : (xs.drop size).length = (n - 1) * size := by rw [List.length_drop, h.1, Nat.sub_mul, Nat.one_mul]
  refine ⟨hl, ?_⟩
  rcases h.2 with ⟨A, e1, rfl⟩ | ⟨g', off', cap, cs, e1, hb, hg, hnc, hm, hs, hc⟩
  · omega
  · injection e1 with e1 _ e2
    injection e1 with e1
    injection e1 with e1 e3
    subst e1; subst e2; subst e3
    by_cases h1 : c = 1
    · subst h1
      left
      exact ⟨_, by rw [show n - 1 = 0 by omega], by omega⟩
    · right
      rw [if_neg h1]
      refine ⟨g, off + size, c - 1, cs, rfl, hb, hg, by omega, by omega, ?_, fun j hj => ?_⟩
      · have : c * size = (c - 1) * size + size := by
          rw [← Nat.succ_mul]; congr 1; omega
        omega
      · have h2 : n * size = (n - 1) * size + size := by
          rw [← Nat.succ_mul]; congr 1; omega
        rw [List.getElem?_drop, Nat.add_assoc]
        exact hc (size + j) (by omega)
end

theorem setCells_row {g : Nat} {e : TypeId} : ∀ (vs : List Value) (o : Nat) (w : World) (cs : Array Value), w.heap[g]? = some (.cells cs e (0, 0)) → o + vs.length ≤ cs.size →
    ∃ cs', (w.setCells g o vs).heap[g]? = some (.cells cs' e (0, 0)) ∧ cs'.size = cs.size ∧ ∀ j, cs'[j]? = if o ≤ j ∧ j < o + vs.length then vs[j - o]? else cs[j]?
  | [], o, w, cs, h, _ => ⟨cs, h, rfl, fun j => by rw [if_neg (fun hh => by simp only [List.length_nil] at hh; omega)]⟩
  | v :: vs, o, w, cs, h, hl => by
    simp only [List.length_cons] at hl
    obtain ⟨cs', h1, h2, h3⟩ := setCells_row vs (o + 1) (w.setCell ⟨g, o, none⟩ v) _ (blk_set h o v) (by simp; omega)
    refine ⟨cs', h1, by simpa using h2, fun j => ?_⟩
    rw [h3]
    by_cases hj : j = o
    · subst hj
      rw [if_neg (by omega), if_pos (by simp), Nat.sub_self]
      simp [Array.getElem?_setIfInBounds]
      omega
    · by_cases hc : o + 1 ≤ j ∧ j < o + 1 + vs.length
      · rw [if_pos hc, if_pos (by simp; omega)]
        rw [show j - o = (j - (o + 1)) + 1 by omega]
        rfl
      · rw [if_neg hc, if_neg (by simp; omega)]
        rw [Array.getElem?_setIfInBounds_ne (by omega)]
theorem only_setCells (g : Nat) {S : Nat → Prop} (hS : S g) : ∀ (vs : List Value) (o : Nat) (w : World), Only S w (w.setCells g o vs)
  | [], _, w => Only.refl _ w
  | v :: vs, o, w => ((Only.refl S w).setCell (p := ⟨g, o, none⟩) (.inl hS) v).trans (only_setCells g hS vs (o + 1) _) (fun _ _ h => h)

/-- Elements more, onto a row at any offset. -/
theorem wpList_append_rw {P : Program} (w : World) {ops : Array Oper} {rest : List Oper} {o : Oper} {a : Act} {Q : Exit → Act → World → Prop} (hgd : o.guard = none) (s x : Operand) (t : TypeId)
    (ho : o.op = .call { callee := .builtin .append, args := #[s, x], argTypes := #[t, t] })
    (base : Nat) (e : TypeId) (i : TypeInfo) (z : Value) (size bytes : Nat) (ht : P.underlying t = some (.slice e)) (hi : P.info? e = some i) (hz : i.zero = some z) (hsize : i.size = size) (hby : i.bytes = bytes) (hzs : z.cells.size = size) (hsz : 0 < size)
    (v : Value) (n : Nat) (xs : List Value) (hs : a.eval s = v) (h : RowAt w base e size v n xs)
    (ad : Addr) (m c : Nat) (news : List Value) (hx : a.eval x = .slice (some ad) m c) (hl : news.length = m * size) (hnews : ∀ j u, news[j]? = some u → w.cell? (ad.add j) = some u) (h1 : ∀ u ∈ news, u.oneCell' = true)
    (h0 : 0 < m) (h63 : n + m ≤ maxLen) (hbytes : (n + m) * bytes ≤ 140737488355328) (hbase : base ≤ w.heap.size)
    (hK : ∀ v' w', RowAt w' base e size v' (n + m) (xs ++ news) → Only (fun b => base ≤ b ∧ Ty w b e) w w' → wpList P ops Q rest (a.put o.dst v') w') : wpList P ops Q (o :: rest) a w := by
  have hlen : (xs ++ news).length = (n + m) * size := by rw [List.length_append, h.1, hl, Nat.add_mul]
  have grown : ∀ v' w', w'.ownsRow w.heap.size e size v' (n + m) (xs ++ news) → w.grownBy w' none → wpList P ops Q rest (a.put o.dst v') w' := fun v' w' hown hg =>
    hK v' w' ((RowAt.of_own hown).mono hbase) ((Only.refl _ w).grown hg (fun k hk => by cases hk))
  rcases h.2 with ⟨A, rfl, rfl⟩ | ⟨g, off, cap, cs, rfl, hb, hg, hnc, hm, hcs, hc⟩
  · have hx0 : xs = [] := List.eq_nil_of_length_eq_zero (by simpa using h.1)
    subst hx0
    exact wpList_append_grows w hgd s x t ho e i z size bytes ht hi hz hsize hby hzs hsz A 0 0 [] hs (fun _ => ⟨rfl, rfl⟩) (by simp) (fun b _ j u hu => by simp at hu) ad m c news hx hl hnews h1 (by omega) h63 hbytes grown
  · by_cases hroom : n + m ≤ cap
    · have hfit : off + n * size + news.length ≤ cs.size := by
        have : (n + m) * size ≤ cap * size := Nat.mul_le_mul_right _ hroom
        rw [Nat.add_mul] at this
        omega
      refine wpList_append_arg w hgd s x t ho e i z size bytes ht hi hz hsize hby hzs hsz g off n cap xs hs h.1 (fun j u hu => ?_) ad m c news hx hl hnews h1 (fun _ j hj => ?_) h63 hbytes (fun _ => ?_) (fun hgr => by omega)
      · have hj : j < n * size := by rw [← h.1]; exact (List.getElem?_eq_some_iff.1 hu).1
        rw [blk_cell hg, hc j hj, hu]
      · rw [blk_cell hg, blk_frozen hg]
        refine ⟨?_, rfl⟩
        rw [Array.getElem?_eq_getElem (by omega)]; rfl
      · refine hK _ _ ⟨hlen, .inr ?_⟩ (only_setCells g ⟨hb, blk_ty hg⟩ _ _ _)
        obtain ⟨cs', k1, k2, k3⟩ := setCells_row (g := g) (e := e) news (off + n * size) w cs hg hfit
        refine ⟨g, off, cap, cs', rfl, hb, k1, hroom, hm, by omega, fun j hj => ?_⟩
        rw [k3]
        rw [Nat.add_mul] at hj
        by_cases hjn : j < n * size
        · rw [if_neg (by omega), hc j hjn, List.getElem?_append_left (by rw [h.1]; exact hjn)]
        · rw [if_pos (by omega), List.getElem?_append_right (by rw [h.1]; omega), h.1]
          congr 1
          omega
    · refine wpList_append_arg w hgd s x t ho e i z size bytes ht hi hz hsize hby hzs hsz g off n cap xs hs h.1 (fun j u hu => ?_) ad m c news hx hl hnews h1 (fun hr => by omega) h63 hbytes (fun hr => by omega) (fun _ => grown)
      have hj : j < n * size := by rw [← h.1]; exact (List.getElem?_eq_some_iff.1 hu).1
      rw [blk_cell hg, hc j hj, hu]

end Go.Proofs.Ytnhedhmffgaohaa
