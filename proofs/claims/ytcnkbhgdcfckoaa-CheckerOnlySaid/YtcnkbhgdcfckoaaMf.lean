/- The walk of slices.Insert of one order. -/
import Derived.Test.YtcnkbhgdcfckoaaMe
import Derived.Lib.AppendZeros
import Derived.Lib.AppendZerosOnto
import Derived.Lib.Overlaps
import Derived.Laws.Externs
import Derived.Laws.IdiomCopy
import Derived.Laws.NewBlocks
import Derived.Test.YtcnkbhgdcfckoaaMb
set_option linter.unusedVariables false
set_option linter.unusedSimpArgs false
namespace Go.Proofs.Ytcnkbhgdcfckoaa
open Go.RowKit
namespace Ck
section
variable {P : Program}
/-- 'copy' between cells, whatever the element's size. -/
theorem run_copy_many (w : World) (dT sT ty elem : TypeId) (m b o dLen dCap : Nat) (a : Addr) (sLen sCap : Nat) (cs : List Value)
    (hu : P.underlying dT = some (.slice elem)) (hs : (P.info? elem).map (·.size) = some m) (k : Nat) (hk : k = Nat.min sLen dLen) (hn : cs.length = k * m)
    (hsrc : ∀ j v, cs[j]? = some v → w.cell? (a.add j) = some v) (hc : ∀ j, j < cs.length → (w.cell? ⟨b, o + j, none⟩).isSome = true) (hf : ∀ j, j < cs.length → w.frozen? ⟨b, o + j, none⟩ = false) (h1 : ∀ v ∈ cs, v.oneCell' = true) :
    (Builtin.copy_ #[dT, sT] ty #[.slice (some ⟨b, o, none⟩) dLen dCap, .slice (some a) sLen sCap]).run P w = .ok (goInt k) (w.setCells b o cs) := by
  have hl := run_loadCells_list (P := P) w a cs hsrc
  have hst := run_storeCells_cells (P := P) b o cs 0 w (by simpa using hc) (by simpa using hf) h1
  cases hq : P.info? elem with
  | none => simp [hq] at hs
  | some i =>
    have hi : i.size = m := by simpa [hq] using hs
    rw [hn] at hl
    simp [Builtin.copy_, run_underlying hu, Builtin.lenOf, Builtin.firstCells, sizeOf, typeInfo, hq, hi, ← hk, hl, hst]
theorem wp_copy_run' (w : World) {o : Oper} {a : Act} {K : Act → World → Prop} {Q : Exit → Act → World → Prop} (d s : Operand) (t t' : TypeId)
    (ho : o.op = .call { callee := .builtin .copy, args := #[d, s], argTypes := #[t, t'] }) (v u : Value) (hd : a.eval d = v) (hs : a.eval s = u) {v' : Value} {w' : World}
    (hr : (Builtin.copy_ #[t, t'] o.type #[v, u]).run P w = .ok v' w') (h : K (a.put o.dst v') w') : o.wp P a w K Q := by
  unfold Oper.wp execOp
  simp only [ho, resolve, invoke, builtin, Sem.run_bind, Sem.run_pure, Result.andThen_ok, List.map_toArray, List.map_cons, List.map_nil, hd, hs, hr]
  exact h
theorem wpList_copy_run' (w : World) {ops : Array Oper} {rest : List Oper} {o : Oper} {a : Act} {Q : Exit → Act → World → Prop} (hgd : o.guard = none) (d s : Operand) (t t' : TypeId)
    (ho : o.op = .call { callee := .builtin .copy, args := #[d, s], argTypes := #[t, t'] }) (v u : Value) (hd : a.eval d = v) (hs : a.eval s = u) {v' : Value} {w' : World}
    (hr : (Builtin.copy_ #[t, t'] o.type #[v, u]).run P w = .ok v' w') (h : wpList P ops Q rest (a.put o.dst v') w') : wpList P ops Q (o :: rest) a w :=
  wpList_plain hgd fun _ hK => wp_copy_run' w d s t t' ho v u hd hs hr (hK _ _ h)
theorem step_copy_run' {ops : Array Oper} {o : Oper} {a : Act} {w : World} {K : Act → World → Prop} {Q : Exit → Act → World → Prop} {E : Prop}
    (hg : o.guard = none) (d x : Operand) (dT sT : TypeId) (hop : o.op = Op.call { callee := Callee.builtin Builtin.copy, args := #[d, x], argTypes := #[dT, sT] })
    (v u : Value) (hd : a.eval d = v) (hx : a.eval x = u) {v' : Value} {w' : World} (hr : (Builtin.copy_ #[dT, sT] o.type #[v, u]).run P w = .ok v' w') (hK : K (a.put o.dst v') w') :
    if Region.wanted o (yielded ops a.tmps) = true then Oper.wp P o a w K Q else E := by
  have hw : Region.wanted o (yielded ops a.tmps) = true := by simp [Region.wanted, hg]
  rw [if_pos hw]
  unfold Oper.wp
  simp [execOp, hop, resolve, invoke, builtin, hd, hx, hr, Result.andThen]
  exact hK
end
theorem own_of_cells {w : World} {g cap : Nat} {cur : Array Value} {l : List Rs} (h : w.heap[g]? = some (.cells cur tR (0, 0))) (hs : cur.size = cap * 7) (hn : l.length ≤ cap) (hm : cap ≤ maxLen)
    (hc : ∀ (k : Nat) (u : Value), (l.flatMap Rs.cells)[k]? = some u → cur[k]? = some u) : w.ownsRow 0 tR 7 (.slice (some ⟨g, 0, none⟩) l.length cap) l.length (l.flatMap Rs.cells) := by
  refine ⟨rs_len l, .inr ⟨g, cap, cur, rfl, Nat.zero_le _, h, hn, hm, hs, ?_⟩⟩
  apply List.ext_getElem?
  intro k
  by_cases hk : k < l.length * 7
  · rw [List.getElem?_take_of_lt hk, Array.getElem?_toList]
    have h1 : k < (l.flatMap Rs.cells).length := by rw [rs_len]; exact hk
    rw [hc k _ (List.getElem?_eq_getElem h1), List.getElem?_eq_getElem h1]
  · rw [List.getElem?_eq_none (by rw [List.length_take]; omega), List.getElem?_eq_none (by rw [rs_len]; omega)]
theorem ins_get (l : List Rs) (o : Rs) (i : Nat) (hi : i ≤ l.length) (k : Nat) (u : Value) (h : ((l.take i ++ o :: l.drop i).flatMap Rs.cells)[k]? = some u) :
    (k < i * 7 ∧ (l.flatMap Rs.cells)[k]? = some u) ∨ (i * 7 ≤ k ∧ k < i * 7 + 7 ∧ o.cells[k - i * 7]? = some u) ∨ (i * 7 + 7 ≤ k ∧ ((l.drop i).flatMap Rs.cells)[k - (i * 7 + 7)]? = some u) := by
  have e1 : l.flatMap Rs.cells = (l.take i).flatMap Rs.cells ++ (l.drop i).flatMap Rs.cells := by rw [← List.flatMap_append, List.take_append_drop]
  have h1 : ((l.take i).flatMap Rs.cells).length = i * 7 := by rw [rs_len, List.length_take, Nat.min_eq_left hi]
  rw [List.flatMap_append, List.flatMap_cons] at h
  by_cases hk : k < i * 7
  · left
    rw [List.getElem?_append_left (by omega)] at h
    exact ⟨hk, by rw [e1, List.getElem?_append_left (by omega)]; exact h⟩
  · rw [List.getElem?_append_right (by omega), h1] at h
    right
    by_cases hk2 : k < i * 7 + 7
    · left
      rw [List.getElem?_append_left (by rw [o.len]; omega)] at h
      exact ⟨by omega, hk2, h⟩
    · right
      rw [List.getElem?_append_right (by rw [o.len]; omega), o.len] at h
      refine ⟨by omega, ?_⟩
      rw [show k - (i * 7 + 7) = k - i * 7 - 7 by omega]
      exact h
abbrev tSl : Nat := 29
theorem sizeRs : (Try.prog.info? tR).map (·.size) = some 7 := infoRs
set_option maxHeartbeats 1600000 in
set_option maxRecDepth 100000 in
/-- Behind all others. -/
theorem insert_end (B : Nat) (v : Value) (l : List Rs) (o : Rs) (w : World) (h : w.ownsRow 0 tR 7 v l.length (l.flatMap Rs.cells)) (hB : w.heap[B]? = some (.cells o.row tR (0, 0))) (hl : l.length ≤ 1000000) :
    Calls Try.prog 77 #[v, .int .i64 (l.length : Int), .slice (some ⟨B, 0, none⟩) 1 1] w fun e w' => (∃ v', e = .returned v' ∧ w'.ownsRow 0 tR 7 v' (l ++ [o]).length ((l ++ [o]).flatMap Rs.cells) ∧ (v.ownBlock = v'.ownBlock ∨ v'.ownBlock = some w.heap.size)) ∧ Only (fun k => v.ownBlock = some k) w w' := by
  obtain ⟨A, c, rfl, hnc⟩ := own_slice h
  obtain ⟨i0, hi0, hz0, hz1, hz2⟩ := info_parts infoRsB
  have H := Lib.hid h
  have HB := Lib.hid hB
  clear h hB
  go_enter Try.func77, Try.ntmps77
  go_wp2_with (at_builtin; (refine wpList_append_lies _ rfl (.tmp 23) (.tmp 24) tSl rfl 0 tR i0 _ 7 56 Try.underlying29 hi0 hz0 hz1 hz2 rfl (by omega) (.slice A l.length c) l.length (l.flatMap Rs.cells) rfl H.out ⟨B, 0, none⟩ 1 1 o.cells rfl rfl (World.news_of_block HB.out) (by cases o; simp [Rs.cells, Value.oneCell']) (by omega) (by unfold maxLen; omega) (by omega) (by omega) _ rfl ?_); intro g cap w1 hown hgrow hat hlt)
  all_goals
    go_ret
    refine ⟨⟨.slice (some ⟨g, 0, none⟩) (l.length + 1) cap, rfl, ?_, ?_⟩, ?_⟩
    · first | exact hown | simpa using hown
    · rcases hat with e | e
      · exact .inl (by cases A <;> exact e)
      · exact .inr (by rw [e]; rfl)
    · exact (Only.refl _ w).grown hgrow (fun k hk _ => by cases A <;> exact hk)
set_option maxHeartbeats 4000000 in
set_option maxRecDepth 100000 in
/-- There is room. -/
theorem insert_shift (B g c i : Nat) (l : List Rs) (o : Rs) (w : World) (h : w.ownsRow 0 tR 7 (.slice (some ⟨g, 0, none⟩) l.length c) l.length (l.flatMap Rs.cells)) (hB : w.heap[B]? = some (.cells o.row tR (0, 0))) (hne : B ≠ g) (hi : i < l.length) (hroom : l.length + 1 ≤ c) :
    Calls Try.prog 77 #[.slice (some ⟨g, 0, none⟩) l.length c, .int .i64 (i : Int), .slice (some ⟨B, 0, none⟩) 1 1] w fun e w' => (e = .returned (.slice (some ⟨g, 0, none⟩) (l.length + 1) c) ∧ w'.ownsRow 0 tR 7 (.slice (some ⟨g, 0, none⟩) (l.length + 1) c) (l.length + 1) ((l.take i ++ o :: l.drop i).flatMap Rs.cells)) ∧ Only (fun k => k = g) w w' := by
  obtain ⟨cur, hcur, hcm, hcs, hct⟩ : ∃ cur, w.heap[g]? = some (.cells cur tR (0, 0)) ∧ c ≤ maxLen ∧ cur.size = c * 7 ∧ cur.toList.take (l.length * 7) = l.flatMap Rs.cells := by
    rcases h.2 with ⟨e, _⟩ | ⟨g', c', cur, e, _, h2, _, h4, h5, h6⟩
    · cases e
    · injection e with e _ e2
      injection e with e
      injection e with e
      subst e; subst e2
      exact ⟨cur, h2, h4, h5, h6⟩
  unfold maxLen at hcm
  have hcell : ∀ j, j < c * 7 → (w.cell? ⟨g, j, none⟩).isSome = true := fun j hj => by rw [blk_cell hcur j, Array.getElem?_eq_getElem (by omega)]; rfl
  have hfz : ∀ j, w.frozen? ⟨g, j, none⟩ = false := fun j => blk_frozen hcur j
  have hget : ∀ (j : Nat) (u : Value), ((l.drop i).flatMap Rs.cells)[j]? = some u → w.cell? ⟨g, i * 7 + j, none⟩ = some u := fun j u hu => own_cell h (by rw [rs_drop l i j (by omega)]; exact hu)
  have hdl : ((l.drop i).flatMap Rs.cells).length = (l.length - i) * 7 := by rw [rs_len, List.length_drop]
  have hz1 : ¬ ((i : Int) = (l.length : Int)) := by omega
  have hov : ∀ lb cb, (callFunc 78 #[.slice (some ⟨B, 0, none⟩) 1 1, .slice (some ⟨g, (i + 1) * 7, none⟩) lb cb]).run Try.prog w = .ok (.value (.bool false)) w := fun lb cb => by
    rw [run_callFunc_extern Try.func78 (by kernel_rfl) (by kernel_rfl) (by kernel_rfl) (e := Extern.SlicesOverlaps.overlaps #[tSl, tSl] #[4]) (by kernel_rfl),
      Lib.run_overlaps_apart w tSl 4 tR Try.underlying29 7 (fun W => by kernel_rfl) ⟨B, 0, none⟩ ⟨g, (i + 1) * 7, none⟩ 1 1 lb cb hne tR tR 7 (c * 7) (by simp [World.shape?, hB, Rs.row]) (by simp [World.shape?, hcur, hcs]) (by omega) (blk_frozen hB 0) (blk_frozen hB 7)]
    rfl
  obtain ⟨W1, hW1⟩ : ∃ W1, W1 = w.drew.setCells g ((i + 1) * 7) ((l.drop i).flatMap Rs.cells) := ⟨_, rfl⟩
  have hcp1 : ∀ ty dc sc, (Builtin.copy_ #[tSl, tSl] ty #[.slice (some ⟨g, (i + 1) * 7, none⟩) (l.length - i) dc, .slice (some ⟨g, i * 7, none⟩) (l.length + 1 - i) sc]).run Try.prog w.drew = .ok (goInt ((l.length - i : Nat) : Int)) W1 := fun ty dc sc => by
    rw [hW1]
    exact run_copy_many w.drew _ _ ty tR 7 g ((i + 1) * 7) (l.length - i) dc ⟨g, i * 7, none⟩ (l.length + 1 - i) sc _ Try.underlying29 sizeRs (l.length - i) (by simp only [Nat.min_def]; split <;> omega) hdl
      (fun j v hj => by rw [Addr.add_lit]; exact hget j v hj) (fun j hj => hcell _ (by omega)) (fun j _ => hfz _) (one_flat _)
  obtain ⟨cur1, a1, a2, a3, a4⟩ := blk_setCells ((l.drop i).flatMap Rs.cells) ((i + 1) * 7) w.drew cur hcur
  rw [← hW1] at a1
  have hO1 : Only (fun k => k = g) w W1 := by rw [hW1]; exact only_setCells _ _ _ (Only.refl _ w).drew rfl
  have hB1 : W1.heap[B]? = some (.cells o.row tR (0, 0)) := hO1.blk hB hne
  have hcp2 : ∀ ty dc, (Builtin.copy_ #[tSl, tSl] ty #[.slice (some ⟨g, i * 7, none⟩) (l.length + 1 - i) dc, .slice (some ⟨B, 0, none⟩) 1 1]).run Try.prog W1 = .ok (goInt 1) (W1.setCells g (i * 7) o.cells) := fun ty dc =>
    run_copy_many W1 _ _ ty tR 7 g (i * 7) (l.length + 1 - i) dc ⟨B, 0, none⟩ 1 1 _ Try.underlying29 sizeRs 1 (by simp only [Nat.min_def]; split <;> omega) o.len
      (World.news_of_block hB1) (fun j hj => by rw [o.len] at hj; rw [blk_cell a1, Array.getElem?_eq_getElem (by omega)]; rfl) (fun j _ => blk_frozen a1 _) (by cases o; simp [Rs.cells, Value.oneCell'])
  obtain ⟨cur2, b1, b2, b3, b4⟩ := blk_setCells o.cells (i * 7) W1 cur1 a1
  have hO2 : Only (fun k => k = g) w (W1.setCells g (i * 7) o.cells) := only_setCells _ _ _ hO1 rfl
  have hown : (W1.setCells g (i * 7) o.cells).ownsRow 0 tR 7 (.slice (some ⟨g, 0, none⟩) (l.length + 1) c) (l.length + 1) ((l.take i ++ o :: l.drop i).flatMap Rs.cells) := by
    have hn : (l.take i ++ o :: l.drop i).length = l.length + 1 := by simp; omega
    rw [← hn]
    refine own_of_cells b1 (by omega) (by omega) (by unfold maxLen; omega) fun k u hu => ?_
    rcases ins_get l o i (by omega) k u hu with ⟨h1, h2⟩ | ⟨h1, h2, h3⟩ | ⟨h1, h2⟩
    · rw [b3 k (.inl h1), a3 k (.inl (by omega))]
      have h4 : k < l.length * 7 := by omega
      have : (cur.toList.take (l.length * 7))[k]? = some u := by rw [hct]; exact h2
      rw [List.getElem?_take_of_lt h4, Array.getElem?_toList] at this
      exact this
    · have := b4 (k - i * 7) u h3 (by omega)
      rw [show i * 7 + (k - i * 7) = k by omega] at this
      exact this
    · rw [b3 k (.inr (by rw [o.len]; omega))]
      have h4 : k - (i * 7 + 7) < ((l.drop i).flatMap Rs.cells).length := (List.getElem?_eq_some_iff.1 h2).1
      have := a4 (k - (i * 7 + 7)) u h2 (by omega)
      rw [show (i + 1) * 7 + (k - (i * 7 + 7)) = k by omega] at this
      exact this
  have HW := Lib.hid hown
  have HO := Lib.hid hO2
  have hw1 : IntKind.i64.wrap ((i : Int) + 1) = (i : Int) + 1 := by rw [IntKind.wrap_i64]; omega
  have hw2 : IntKind.i64.wrap ((l.length : Int) + 1) = (l.length : Int) + 1 := by rw [IntKind.wrap_i64]; omega
  have hb1 : (0 : Int) ≤ (i : Int) + 1 := by omega
  have hb5 : (0 : Int) ≤ (l.length : Int) + 1 := by omega
  have hb6 : (l.length : Int) + 1 ≤ (c : Int) := by omega
  have hin : (i : Int) ≤ (l.length : Int) := by omega
  have htn : ((i : Int) + 1).toNat = i + 1 := by omega
  have htl : ((l.length : Int) + 1).toNat = l.length + 1 := by omega
  have hb2 : ¬ (c = i + 1) := by omega
  have hb3 : (i : Int) ≤ (l.length : Int) + 1 := by omega
  have hb7 : (i : Int) + 1 ≤ (l.length : Int) + 1 := by omega
  have hb8 : ¬ ((c : Int) < (l.length : Int) + 1) := by omega
  have hb4 : ¬ (c = i) := by omega
  clear hown hO2 b1 b2 b3 b4 hB1 hO1 a1 a2 a3 a4 hW1 hget hcell hfz hdl hcur hct hcs hB h
  go_enter Try.func77, Try.ntmps77
  go_wp2_with (simp only [hov])
  go_region_law (refine step_copy_run' rfl _ _ tSl tSl rfl _ _ (by simp [Act.eval, Act.put]) (by simp [Act.eval, Act.put]) (hcp1 _ _ _) ?_)
  go_wp2_with (at_builtin; refine wpList_copy_run' _ rfl _ _ tSl tSl rfl _ _ rfl rfl (hcp2 _ _) ?_)
  go_ret
  exact ⟨⟨rfl, HW.out⟩, HO.out⟩
theorem zeros_size (k : Nat) : (Builtin.zeroCells (Value.agg zR.row).cells k).size = k * 7 := by
  simp [Builtin.zeroCells, Value.cells, zR, Rs.row]
set_option maxHeartbeats 4000000 in
set_option maxRecDepth 100000 in
/-- There is no room. -/
theorem insert_grow (B g c i : Nat) (l : List Rs) (o : Rs) (w : World) (h : w.ownsRow 0 tR 7 (.slice (some ⟨g, 0, none⟩) l.length c) l.length (l.flatMap Rs.cells)) (hB : w.heap[B]? = some (.cells o.row tR (0, 0))) (hi : i < l.length) (hc0 : l.length ≤ c) (hroom : c < l.length + 1) (hl : l.length ≤ 1000000) :
    Calls Try.prog 77 #[.slice (some ⟨g, 0, none⟩) l.length c, .int .i64 (i : Int), .slice (some ⟨B, 0, none⟩) 1 1] w fun e w' => (∃ c', e = .returned (.slice (some ⟨w.heap.size, 0, none⟩) (l.length + 1) c') ∧ w'.ownsRow 0 tR 7 (.slice (some ⟨w.heap.size, 0, none⟩) (l.length + 1) c') (l.length + 1) ((l.take i ++ o :: l.drop i).flatMap Rs.cells)) ∧ Only Nil w w' := by
  obtain ⟨i0, hi0, hz0, hz1, hz2⟩ := info_parts infoRsB
  have hget : ∀ (j : Nat) (u : Value), ((l.drop i).flatMap Rs.cells)[j]? = some u → w.cell? ⟨g, i * 7 + j, none⟩ = some u := fun j u hu => own_cell h (by rw [rs_drop l i j (by omega)]; exact hu)
  have hdl : ((l.drop i).flatMap Rs.cells).length = (l.length - i) * 7 := by rw [rs_len, List.length_drop]
  have htk : ((l.take i).flatMap Rs.cells).length = i * 7 := by rw [rs_len, List.length_take, Nat.min_eq_left (by omega)]
  have hgw : g < w.heap.size := own_lt h rfl
  have hBw := blk_lt hB
  have hold : (Builtin.firstCells i0.size i (.slice (some ⟨g, 0, none⟩) i c)).run Try.prog w.drew = .ok ((l.take i).flatMap Rs.cells).toArray w.drew := by
    rw [hz1]
    refine run_firstCells_some w.drew 7 i ⟨g, 0, none⟩ i c ((l.take i).flatMap Rs.cells) htk (fun j v hj => ?_)
    rw [Addr.add_lit]
    have hj2 : j < i * 7 := by rw [← htk]; exact (List.getElem?_eq_some_iff.1 hj).1
    have e1 : l.flatMap Rs.cells = (l.take i).flatMap Rs.cells ++ (l.drop i).flatMap Rs.cells := by rw [← List.flatMap_append, List.take_append_drop]
    show w.cell? _ = some v
    rw [Nat.zero_add]
    exact own_cell h (by rw [e1, List.getElem?_append_left (by omega)]; exact hj)
  obtain ⟨G, hG⟩ : ∃ G, G = grownCap w (l.length + 1) c tR := ⟨_, rfl⟩
  obtain ⟨ROW, hROW⟩ : ∃ ROW : Array Value, ROW = ((l.take i).flatMap Rs.cells).toArray ++ Builtin.zeroCells (Value.agg zR.row).cells (l.length + 1 - i) ++ Builtin.zeroCells (Value.agg zR.row).cells (G - (l.length + 1)) := ⟨_, rfl⟩
  have hkk : (l.length : Int) + 1 - (i : Int) = ((l.length + 1 - i : Nat) : Int) := by omega
  have hrz : ∀ ty, (Builtin.append_ #[tSl, 3] ty #[.slice (some ⟨g, 0, none⟩) i c, .int .i64 ((l.length : Int) + 1 - (i : Int))]).run Try.prog w = .ok (.slice (some ⟨w.heap.size, 0, none⟩) (l.length + 1) G) (w.drew.alloc (.cells ROW tR)) := fun ty => by
    have h := Lib.run_append_grow_zeros w tSl 3 ty tR i0 _ .i64 .i64 Try.underlying29 Try.underlying3 hi0 hz0 (some ⟨g, 0, none⟩) i c _ hold (l.length + 1 - i) (by omega) (by omega) (by omega) (by omega) (by rw [hz2]; omega) (by rw [hz2, show i + (l.length + 1 - i) = l.length + 1 by omega]; exact growslice_fits hroom (by omega))
    rw [show i + (l.length + 1 - i) = l.length + 1 by omega, ← hG] at h
    rw [hkk, hROW]
    exact h
  have hGn : l.length + 1 ≤ G := by rw [hG]; exact grownCap_ge w _ _ _
  have hG63 : G ≤ 9223372036854775807 := by
    have := grownCap_le_maxLen w (l.length + 1) c tR (by unfold maxLen; omega)
    rw [← hG] at this
    unfold maxLen at this
    omega
  have hRsz : ROW.size = G * 7 := by
    rw [hROW, Array.size_append, Array.size_append, zeros_size, zeros_size]
    simp only [List.size_toArray, htk]
    omega
  have hRt : ∀ (k : Nat), k < i * 7 → ROW[k]? = ((l.take i).flatMap Rs.cells)[k]? := fun k hk => by
    rw [hROW, Array.append_assoc, Array.getElem?_append_left (by simpa [htk] using hk)]
    simp
  obtain ⟨W1, hW1⟩ : ∃ W1, W1 = w.drew.alloc (.cells ROW tR) := ⟨_, rfl⟩
  rw [← hW1] at hrz
  have hN1 : W1.heap[w.heap.size]? = some (.cells ROW tR (0, 0)) := by rw [hW1]; exact blk_new w.drew _
  have hO1 : Only Nil w W1 := by rw [hW1]; exact (Only.refl _ w).drew.alloc _
  have hB1 : W1.heap[B]? = some (.cells o.row tR (0, 0)) := hO1.blk hB (fun h => h)
  obtain ⟨W2, hW2⟩ : ∃ W2, W2 = W1.setCells w.heap.size (i * 7) o.cells := ⟨_, rfl⟩
  have hcpA : ∀ ty dc, (Builtin.copy_ #[tSl, tSl] ty #[.slice (some ⟨w.heap.size, i * 7, none⟩) (l.length + 1 - i) dc, .slice (some ⟨B, 0, none⟩) 1 1]).run Try.prog W1 = .ok (goInt 1) W2 := fun ty dc => by
    rw [hW2]
    exact run_copy_many W1 _ _ ty tR 7 w.heap.size (i * 7) (l.length + 1 - i) dc ⟨B, 0, none⟩ 1 1 _ Try.underlying29 sizeRs 1 (by simp only [Nat.min_def]; split <;> omega) o.len
      (World.news_of_block hB1) (fun j hj => by rw [o.len] at hj; rw [blk_cell hN1, Array.getElem?_eq_getElem (by omega)]; rfl) (fun j _ => blk_frozen hN1 _) (by cases o; simp [Rs.cells, Value.oneCell'])
  obtain ⟨cur1, a1, a2, a3, a4⟩ := blk_setCells o.cells (i * 7) W1 ROW hN1
  rw [← hW2] at a1
  have hO2 : Only Nil w W2 := by
    rw [hW2]
    have h1 : Only (fun k => k = w.heap.size) w (W1.setCells w.heap.size (i * 7) o.cells) := only_setCells _ _ _ (hO1.mono (fun _ _ h => h.elim)) rfl
    exact h1.mono (fun k hk e => by omega)
  have hg2 : ∀ (j : Nat) (u : Value), ((l.drop i).flatMap Rs.cells)[j]? = some u → W2.cell? ⟨g, i * 7 + j, none⟩ = some u := fun j u hu => (hO2.cell (p := ⟨g, i * 7 + j, none⟩) hgw (fun h => h)).trans (hget j u hu)
  obtain ⟨W3, hW3⟩ : ∃ W3, W3 = W2.drew.setCells w.heap.size ((i + 1) * 7) ((l.drop i).flatMap Rs.cells) := ⟨_, rfl⟩
  have hcpB : ∀ ty dc sc, (Builtin.copy_ #[tSl, tSl] ty #[.slice (some ⟨w.heap.size, (i + 1) * 7, none⟩) (l.length - i) dc, .slice (some ⟨g, i * 7, none⟩) (l.length - i) sc]).run Try.prog W2.drew = .ok (goInt ((l.length - i : Nat) : Int)) W3 := fun ty dc sc => by
    rw [hW3]
    exact run_copy_many W2.drew _ _ ty tR 7 w.heap.size ((i + 1) * 7) (l.length - i) dc ⟨g, i * 7, none⟩ (l.length - i) sc _ Try.underlying29 sizeRs (l.length - i) (by simp only [Nat.min_def]; split <;> omega) hdl
      (fun j v hj => by rw [Addr.add_lit]; exact hg2 j v hj) (fun j hj => by
        show (W2.cell? _).isSome = true
        rw [blk_cell a1, Array.getElem?_eq_getElem (by omega)]; rfl) (fun j _ => blk_frozen (w := W2) a1 _) (one_flat _)
  obtain ⟨cur2, b1, b2, b3, b4⟩ := blk_setCells ((l.drop i).flatMap Rs.cells) ((i + 1) * 7) W2.drew cur1 a1
  rw [← hW3] at b1
  have hO3 : Only Nil w W3 := by
    rw [hW3]
    have h1 : Only (fun k => k = w.heap.size) w (W2.drew.setCells w.heap.size ((i + 1) * 7) ((l.drop i).flatMap Rs.cells)) := only_setCells _ _ _ (hO2.drew.mono (fun _ _ h => h.elim)) rfl
    exact h1.mono (fun k hk e => by omega)
  have hown : W3.ownsRow 0 tR 7 (.slice (some ⟨w.heap.size, 0, none⟩) (l.length + 1) G) (l.length + 1) ((l.take i ++ o :: l.drop i).flatMap Rs.cells) := by
    have hn : (l.take i ++ o :: l.drop i).length = l.length + 1 := by simp; omega
    rw [← hn]
    refine own_of_cells b1 (by omega) (by omega) (by unfold maxLen; omega) fun k u hu => ?_
    rcases ins_get l o i (by omega) k u hu with ⟨h1, h2⟩ | ⟨h1, h2, h3⟩ | ⟨h1, h2⟩
    · rw [b3 k (.inl (by omega)), a3 k (.inl h1), hRt k h1]
      have e1 : l.flatMap Rs.cells = (l.take i).flatMap Rs.cells ++ (l.drop i).flatMap Rs.cells := by rw [← List.flatMap_append, List.take_append_drop]
      rw [e1, List.getElem?_append_left (by omega)] at h2
      exact h2
    · rw [b3 k (.inl (by omega))]
      have := a4 (k - i * 7) u h3 (by omega)
      rw [show i * 7 + (k - i * 7) = k by omega] at this
      exact this
    · have h4 : k - (i * 7 + 7) < ((l.drop i).flatMap Rs.cells).length := (List.getElem?_eq_some_iff.1 h2).1
      have := b4 (k - (i * 7 + 7)) u h2 (by omega)
      rw [show (i + 1) * 7 + (k - (i * 7 + 7)) = k by omega] at this
      exact this
  have HW := Lib.hid hown
  have HO := Lib.hid hO3
  have hz9 : ¬ ((i : Int) = (l.length : Int)) := by omega
  have hz8 : (c : Int) < (l.length : Int) + 1 := by omega
  have hw1 : IntKind.i64.wrap ((i : Int) + 1) = (i : Int) + 1 := by rw [IntKind.wrap_i64]; omega
  have hw2 : IntKind.i64.wrap ((l.length : Int) + 1) = (l.length : Int) + 1 := by rw [IntKind.wrap_i64]; omega
  have hw3 : IntKind.i64.wrap ((l.length : Int) + 1 - (i : Int)) = (l.length : Int) + 1 - (i : Int) := by rw [IntKind.wrap_i64]; omega
  have hb1 : (0 : Int) ≤ (i : Int) + 1 := by omega
  have hin : (i : Int) ≤ (l.length : Int) := by omega
  have hic : (i : Int) ≤ (c : Int) := by omega
  have htn : ((i : Int) + 1).toNat = i + 1 := by omega
  have hb2 : ¬ (G = i + 1) := by omega
  have hb3 : (i : Int) ≤ (l.length : Int) + 1 := by omega
  have hb7 : (i : Int) + 1 ≤ (l.length : Int) + 1 := by omega
  have hb4 : ¬ (c = i) := by omega
  have hb5 : ¬ (G = i) := by omega
  clear hown hO3 b1 b2 b3 b4 hB1 hO1 hO2 a1 a2 a3 a4 hW1 hW2 hW3 hget hdl hB h hRt hRsz hROW hG hold htk hkk hN1 hg2 hz0 hi0 hz1 hz2
  generalize w.heap.size = S at *
  go_enter Try.func77, Try.ntmps77
  go_wp2_with (first
    | (at_builtin; refine Lib.wpList_append_run _ rfl _ _ tSl 3 rfl _ _ rfl rfl _ _ (hrz _) ?_)
    | (at_builtin; refine wpList_copy_run' _ rfl _ _ tSl tSl rfl _ _ rfl rfl (hcpA _ _) ?_))
  go_region_law (refine step_copy_run' rfl _ _ tSl tSl rfl _ _ (by simp [Act.eval, Act.put]) (by simp [Act.eval, Act.put]) (hcpB _ _ _) ?_)
  go_wp2
  go_ret
  exact ⟨⟨G, rfl, HW.out⟩, HO.out⟩
theorem insert_any (B i : Nat) (v : Value) (l : List Rs) (o : Rs) (w : World) (h : w.ownsRow 0 tR 7 v l.length (l.flatMap Rs.cells)) (hB : w.heap[B]? = some (.cells o.row tR (0, 0))) (hi : i ≤ l.length) (hl : l.length ≤ 1000000) (hne : v.ownBlock ≠ some B) :
    Calls Try.prog 77 #[v, .int .i64 (i : Int), .slice (some ⟨B, 0, none⟩) 1 1] w fun e w' => (∃ v', e = .returned v' ∧ w'.ownsRow 0 tR 7 v' (l.length + 1) ((l.take i ++ o :: l.drop i).flatMap Rs.cells) ∧ (v'.ownBlock = v.ownBlock ∨ v'.ownBlock = some w.heap.size)) ∧ Only (fun k => v.ownBlock = some k) w w' := by
  by_cases h1 : i = l.length
  · subst h1
    rw [List.take_length, List.drop_length]
    exact (insert_end B v l o w h hB hl).mono fun e w' ⟨⟨v', h1, h2, h3⟩, h4⟩ => ⟨⟨v', h1, by simpa using h2, h3.imp Eq.symm id⟩, h4⟩
  · obtain ⟨g, c, rfl, hg, hnc, hm⟩ := own_row h (by omega)
    by_cases h2 : l.length + 1 ≤ c
    · exact (insert_shift B g c i l o w h hB (fun e => hne (by rw [e]; rfl)) (by omega) h2).mono fun e w' ⟨⟨h1, h2⟩, h4⟩ => ⟨⟨_, h1, h2, .inl rfl⟩, h4.mono (fun k _ e => by rw [e]; rfl)⟩
    · exact (insert_grow B g c i l o w h hB (by omega) hnc (by omega) hl).mono fun e w' ⟨⟨c', h1, h2⟩, h4⟩ => ⟨⟨_, h1, h2, .inr rfl⟩, h4.mono (fun k _ e => e.elim)⟩
end Ck
end Go.Proofs.Ytcnkbhgdcfckoaa
namespace Go.Proofs.Ytcnkbhgdcfckoaa
open Go.RowKit
namespace Ck
set_option maxHeartbeats 1600000 in
set_option maxRecDepth 100000 in
theorem rests_one (C : Nat) (b : Bk) (o : Rs) (v1 v2 p6 p7 : Value) (w : World) (h : BkRep w C b v1 v2 p6 p7) (hl : b.buys.length ≤ 1000000) :
    Calls Try.prog 67 #[.pointer (some ⟨C, 0, none⟩), .int .i64 1, .agg o.row] w fun e w' => e = .returned (.tuple #[]) ∧
      ∃ v1', BkRep w' C { b with buys := rests 1 o b.buys } v1' v2 p6 p7 ∧ (v1'.ownBlock = v1.ownBlock ∨ ∃ k, v1'.ownBlock = some k ∧ w.heap.size ≤ k) ∧ Only (Mine C v1 v2) w w' := by
  obtain ⟨A, c, rfl, hnc⟩ := own_slice h.r1
  have hCw := blk_lt h.blk
  obtain ⟨W0, hW0⟩ : ∃ W0, W0 = (w.alloc (.cells #[.int .i64 1] tInt)).alloc (.cells o.row tR) := ⟨_, rfl⟩
  have hO0 : Only Nil w W0 := by rw [hW0]; exact ((Only.refl _ w).alloc _).alloc _
  have hS : W0.heap[w.heap.size]? = some (.cells #[.int .i64 1] tInt (0, 0)) := by rw [hW0]; exact blk_alloc (blk_new w _) _
  have hB : W0.heap[w.heap.size + 1]? = some (.cells o.row tR (0, 0)) := by rw [hW0]; exact blk_new' _ _ _ (by simp)
  have HI := Lib.hid (fun W (ho : Only Nil W0 W) => index_ahead 1 o w.heap.size (w.heap.size + 1) (.slice A b.buys.length c) b.buys W (ho.blk hS (fun h => h)) (ho.blk hB (fun h => h)) (Shows.own ((h.nil hO0).nil ho).r1))
  have hfree : ∀ v : Value, v.ownBlock = some (w.heap.size + 1) → ∀ {n : Nat} {xs : List Value}, ¬ w.ownsRow 0 tR 7 v n xs := fun v hv n xs hr => by have := own_lt hr hv; omega
  have HX := Lib.hid h
  have HS := Lib.hid hS
  have HO0 := Lib.hid hO0
  have Sof : ∀ W, Only Nil W0 W → W.cell? ⟨C, 2, none⟩ = some (.slice A b.buys.length c) ∧ W.frozen? ⟨C, 2, none⟩ = false ∧ C < W.heap.size ∧ W.cell? ⟨w.heap.size, 0, none⟩ = some (.int .i64 1) ∧ w.heap.size < W.heap.size ∧ w.heap.size + 1 < W.heap.size ∧ W.cell? ⟨w.heap.size + 1, 0, none⟩ = some (.int .u64 o.id) ∧ W.cell? ⟨w.heap.size + 1, 1, none⟩ = some (.int .u32 o.mem) ∧ W.cell? ⟨w.heap.size + 1, 2, none⟩ = some (.int .i64 o.typ) ∧ W.cell? ⟨w.heap.size + 1, 3, none⟩ = some (.int .i64 o.price) ∧ W.cell? ⟨w.heap.size + 1, 4, none⟩ = some (.int .u64 o.vis) ∧ W.cell? ⟨w.heap.size + 1, 5, none⟩ = some (.int .u64 o.hid) ∧ W.cell? ⟨w.heap.size + 1, 6, none⟩ = some (.int .u64 o.peak) := fun W ho => by
    have hb := (HX.out.nil HO0.out).nil ho
    have hs := ho.blk hS (fun h => h)
    have hB' := ho.blk hB (fun h => h)
    exact ⟨blk_cell hb.blk 2, blk_frozen hb.blk 2, blk_lt hb.blk, blk_cell hs 0, blk_lt hs, blk_lt hB', blk_cell hB' 0, blk_cell hB' 1, blk_cell hB' 2, blk_cell hB' 3, blk_cell hB' 4, blk_cell hB' 5, blk_cell hB' 6⟩
  have HSof := Lib.hid Sof
  have hmk : ∀ (fn : Fn) (first cap : Array Value) (w : World), (Instr.makeFunc fn first cap).run Try.prog w = .ok (.func fn first cap) w := fun _ _ _ _ => rfl
  have hw0 : IntKind.i64.wrap 0 = 0 := by rw [IntKind.wrap_i64]; omega
  have hlc : (b.buys.length : Int) ≤ 1000000 := by omega
  clear Sof h hO0 hS hB
  go_enter Try.func67, Try.ntmps67
  unfold Rs.row
  go_upto_region 1 with fail
  generalize hq : World.alloc (World.alloc w _) _ = Wz
  obtain rfl : Wz = W0 := by rw [hW0, ← hq]; rfl
  clear hq hW0
  obtain ⟨q1, q2, q3, q4, q5, q6, q7, q8, q9, q10, q11, q12, q13⟩ := HSof.out Wz (Only.refl _ _)
  go_quiet (fail)
  go_wp2_with fail
  refine (HI.out _ ((Only.refl _ _).drewN _)).mono ?_
  rintro e w1 ⟨rfl, ho⟩
  have HO1 := Lib.hid (((Only.refl Nil Wz).drewN _).trans (S := Nil) ho (fun _ _ h => h))
  clear q1 q2 q3 q4 q5 q6 q7 q8 q9 q10 q11 q12 q13 ho
  have hO1w : Only Nil w w1 := HO0.out.trans (S := Nil) HO1.out (fun _ _ h => h)
  have hR := HX.out.nil hO1w
  obtain ⟨W2, hW2⟩ : ∃ W2, W2 = w1.drew.alloc (.cells o.row tR) := ⟨_, rfl⟩
  have hO2 : Only Nil w W2 := by rw [hW2]; exact hO1w.drew.alloc _
  have hR2 := HX.out.nil hO2
  have hBn : W2.heap[w1.heap.size]? = some (.cells o.row tR (0, 0)) := by rw [hW2]; exact blk_new w1.drew _
  have hvn : (Value.slice A b.buys.length c).ownBlock ≠ some w1.heap.size := fun e => by have := own_lt hR.r1 e; omega
  have HIns := Lib.hid (fun k (hk : k ≤ b.buys.length) => insert_any w1.heap.size k (.slice A b.buys.length c) b.buys o W2 hR2.r1 hBn hk hl hvn)
  have hCv : ¬ (Value.slice A b.buys.length c).ownBlock = some C := own_blk_ne hR2.r1 hR2.blk (by decide)
  have hS2 : W2.heap[w.heap.size]? = some (.cells #[.int .i64 1] tInt (0, 0)) := by rw [hW2]; exact blk_alloc (HO1.out.blk HS.out (fun h => h)) _
  have Tof : ∀ W, Only (fun k => (Value.slice A b.buys.length c).ownBlock = some k) W2 W → W.cell? ⟨C, 2, none⟩ = some (.slice A b.buys.length c) ∧ W.frozen? ⟨C, 2, none⟩ = false ∧ C < W.heap.size ∧ W.cell? ⟨w.heap.size, 0, none⟩ = some (.int .i64 1) ∧ w.heap.size < W.heap.size := fun W ho => by
    have hb := ho.blk hR2.blk hCv
    have hs := ho.blk hS2 (fun e => by have := own_lt HX.out.r1 e; omega)
    exact ⟨blk_cell hb 2, blk_frozen hb 2, blk_lt hb, blk_cell hs 0, blk_lt hs⟩
  have HTof := Lib.hid Tof
  have fin : ∀ (k : Nat), k ≤ b.buys.length → rests 1 o b.buys = b.buys.take k ++ o :: b.buys.drop k → ∀ (v' : Value) (wg : World), wg.ownsRow 0 tR 7 v' (b.buys.length + 1) ((b.buys.take k ++ o :: b.buys.drop k).flatMap Rs.cells) →
      (v'.ownBlock = (Value.slice A b.buys.length c).ownBlock ∨ v'.ownBlock = some W2.heap.size) → Only (fun k => (Value.slice A b.buys.length c).ownBlock = some k) W2 wg →
      BkRep (wg.setCell ⟨C, 2, none⟩ v') C { b with buys := rests 1 o b.buys } v' v2 p6 p7 ∧ (v'.ownBlock = (Value.slice A b.buys.length c).ownBlock ∨ ∃ k, v'.ownBlock = some k ∧ w.heap.size ≤ k) ∧ Only (Mine C (.slice A b.buys.length c) v2) w (wg.setCell ⟨C, 2, none⟩ v') := by
    intro k hk hre v' wg hown hat hog
    have hb := hog.blk hR2.blk hCv
    have hr2 : wg.ownsRow 0 tR 7 v2 b.sells.length (b.sells.flatMap Rs.cells) := own_only hR2.r2 hog (fun k hk e => hR2.ne k e hk)
    rw [← hre, ← rests_len 1 o b.buys] at hown
    refine ⟨⟨?_, ?_, ?_, fun k hk => ?_⟩, ?_, ?_⟩
    · have := blk_set hb 2 v'
      simpa using this
    · exact own_far hown (own_blk_ne hown hb (by decide)) _
    · exact own_far hr2 (own_blk_ne hr2 hb (by decide)) _
    · rcases hat with e | e
      · exact HX.out.ne k (by rw [← e]; exact hk)
      · intro h2
        rw [e] at hk
        have h3 := own_lt hR2.r2 h2
        have : W2.heap.size = k := Option.some.inj hk
        omega
    · rcases hat with e | e
      · exact .inl e
      · exact .inr ⟨_, e, hO2.size⟩
    · exact (((hO2.mono (T := Mine C (.slice A b.buys.length c) v2) (fun _ _ h => h.elim)).trans hog (fun k _ e => .inr (.inl e))).setCell (p := ⟨C, 2, none⟩) (.inl (.inl rfl)) _)
  have Hfin := Lib.hid fin
  obtain ⟨q1, q2, q3, q4, q5, q6, q7, q8, q9, q10, q11, q12, q13⟩ := HSof.out w1 HO1.out
  rw [hW2] at HIns HTof Hfin
  clear fin Tof hS2 hCv hBn hR2 hO2 hW2 hR hvn hO1w
  cases hf : findBy (fun p => ahead 1 o.price p.price) b.buys with
  | some k =>
    have hk0 : (0 : Int) ≤ (k : Int) := by omega
    have hkl := findBy_le hf
    have HR := Lib.hid (Hfin.out k (by omega) (by rw [rests_at]; unfold place; rw [hf]; rfl))
    unfold idx
    simp only
    go_upto_region 5 with fail
    go_region_law ((go_simp; go_at_call 77; (refine (HIns.out k (by omega)).mono ?_); rintro e wg ⟨⟨v', rfl, hown, hat⟩, hog⟩; (obtain ⟨A', c', rfl, _⟩ := own_slice hown); (obtain ⟨r1, r2, r3, r4, r5⟩ := HTof.out wg hog)))
    all_goals
      go_wp2
      go_end0
      exact ⟨rfl, _, HR.out _ _ hown hat hog⟩
  | none =>
    have HR := Lib.hid (Hfin.out b.buys.length (by omega) (by rw [rests_at]; unfold place; rw [hf]; rfl))
    unfold idx
    simp only
    go_upto_region 5 with fail
    go_region_law ((go_simp; go_at_call 77; (refine (HIns.out _ (Nat.le_refl _)).mono ?_); rintro e wg ⟨⟨v', rfl, hown, hat⟩, hog⟩; (obtain ⟨A', c', rfl, _⟩ := own_slice hown); (obtain ⟨r1, r2, r3, r4, r5⟩ := HTof.out wg hog)))
    all_goals
      go_wp2
      go_end0
      exact ⟨rfl, _, HR.out _ _ hown hat hog⟩
set_option maxHeartbeats 1600000 in
set_option maxRecDepth 100000 in
theorem rests_two (C : Nat) (b : Bk) (o : Rs) (v1 v2 p6 p7 : Value) (w : World) (h : BkRep w C b v1 v2 p6 p7) (hl : b.sells.length ≤ 1000000) :
    Calls Try.prog 67 #[.pointer (some ⟨C, 0, none⟩), .int .i64 2, .agg o.row] w fun e w' => e = .returned (.tuple #[]) ∧
      ∃ v2', BkRep w' C { b with sells := rests 2 o b.sells } v1 v2' p6 p7 ∧ (v2'.ownBlock = v2.ownBlock ∨ ∃ k, v2'.ownBlock = some k ∧ w.heap.size ≤ k) ∧ Only (Mine C v1 v2) w w' := by
  obtain ⟨A, c, rfl, hnc⟩ := own_slice h.r2
  have hCw := blk_lt h.blk
  obtain ⟨W0, hW0⟩ : ∃ W0, W0 = (w.alloc (.cells #[.int .i64 2] tInt)).alloc (.cells o.row tR) := ⟨_, rfl⟩
  have hO0 : Only Nil w W0 := by rw [hW0]; exact ((Only.refl _ w).alloc _).alloc _
  have hS : W0.heap[w.heap.size]? = some (.cells #[.int .i64 2] tInt (0, 0)) := by rw [hW0]; exact blk_alloc (blk_new w _) _
  have hB : W0.heap[w.heap.size + 1]? = some (.cells o.row tR (0, 0)) := by rw [hW0]; exact blk_new' _ _ _ (by simp)
  have HI := Lib.hid (fun W (ho : Only Nil W0 W) => index_ahead 2 o w.heap.size (w.heap.size + 1) (.slice A b.sells.length c) b.sells W (ho.blk hS (fun h => h)) (ho.blk hB (fun h => h)) (Shows.own ((h.nil hO0).nil ho).r2))
  have hfree : ∀ v : Value, v.ownBlock = some (w.heap.size + 1) → ∀ {n : Nat} {xs : List Value}, ¬ w.ownsRow 0 tR 7 v n xs := fun v hv n xs hr => by have := own_lt hr hv; omega
  have HX := Lib.hid h
  have HS := Lib.hid hS
  have HO0 := Lib.hid hO0
  have Sof : ∀ W, Only Nil W0 W → W.cell? ⟨C, 3, none⟩ = some (.slice A b.sells.length c) ∧ W.frozen? ⟨C, 3, none⟩ = false ∧ C < W.heap.size ∧ W.cell? ⟨w.heap.size, 0, none⟩ = some (.int .i64 2) ∧ w.heap.size < W.heap.size ∧ w.heap.size + 1 < W.heap.size ∧ W.cell? ⟨w.heap.size + 1, 0, none⟩ = some (.int .u64 o.id) ∧ W.cell? ⟨w.heap.size + 1, 1, none⟩ = some (.int .u32 o.mem) ∧ W.cell? ⟨w.heap.size + 1, 2, none⟩ = some (.int .i64 o.typ) ∧ W.cell? ⟨w.heap.size + 1, 3, none⟩ = some (.int .i64 o.price) ∧ W.cell? ⟨w.heap.size + 1, 4, none⟩ = some (.int .u64 o.vis) ∧ W.cell? ⟨w.heap.size + 1, 5, none⟩ = some (.int .u64 o.hid) ∧ W.cell? ⟨w.heap.size + 1, 6, none⟩ = some (.int .u64 o.peak) := fun W ho => by
    have hb := (HX.out.nil HO0.out).nil ho
    have hs := ho.blk hS (fun h => h)
    have hB' := ho.blk hB (fun h => h)
    exact ⟨blk_cell hb.blk 3, blk_frozen hb.blk 3, blk_lt hb.blk, blk_cell hs 0, blk_lt hs, blk_lt hB', blk_cell hB' 0, blk_cell hB' 1, blk_cell hB' 2, blk_cell hB' 3, blk_cell hB' 4, blk_cell hB' 5, blk_cell hB' 6⟩
  have HSof := Lib.hid Sof
  have hmk : ∀ (fn : Fn) (first cap : Array Value) (w : World), (Instr.makeFunc fn first cap).run Try.prog w = .ok (.func fn first cap) w := fun _ _ _ _ => rfl
  have hw0 : IntKind.i64.wrap 1 = 1 := by rw [IntKind.wrap_i64]; omega
  have hlc : (b.sells.length : Int) ≤ 1000000 := by omega
  clear Sof h hO0 hS hB
  go_enter Try.func67, Try.ntmps67
  unfold Rs.row
  go_upto_region 1 with fail
  generalize hq : World.alloc (World.alloc w _) _ = Wz
  obtain rfl : Wz = W0 := by rw [hW0, ← hq]; rfl
  clear hq hW0
  obtain ⟨q1, q2, q3, q4, q5, q6, q7, q8, q9, q10, q11, q12, q13⟩ := HSof.out Wz (Only.refl _ _)
  go_quiet (fail)
  go_wp2_with fail
  refine (HI.out _ ((Only.refl _ _).drewN _)).mono ?_
  rintro e w1 ⟨rfl, ho⟩
  have HO1 := Lib.hid (((Only.refl Nil Wz).drewN _).trans (S := Nil) ho (fun _ _ h => h))
  clear q1 q2 q3 q4 q5 q6 q7 q8 q9 q10 q11 q12 q13 ho
  have hO1w : Only Nil w w1 := HO0.out.trans (S := Nil) HO1.out (fun _ _ h => h)
  have hR := HX.out.nil hO1w
  obtain ⟨W2, hW2⟩ : ∃ W2, W2 = w1.drew.alloc (.cells o.row tR) := ⟨_, rfl⟩
  have hO2 : Only Nil w W2 := by rw [hW2]; exact hO1w.drew.alloc _
  have hR2 := HX.out.nil hO2
  have hBn : W2.heap[w1.heap.size]? = some (.cells o.row tR (0, 0)) := by rw [hW2]; exact blk_new w1.drew _
  have hvn : (Value.slice A b.sells.length c).ownBlock ≠ some w1.heap.size := fun e => by have := own_lt hR.r2 e; omega
  have HIns := Lib.hid (fun k (hk : k ≤ b.sells.length) => insert_any w1.heap.size k (.slice A b.sells.length c) b.sells o W2 hR2.r2 hBn hk hl hvn)
  have hCv : ¬ (Value.slice A b.sells.length c).ownBlock = some C := own_blk_ne hR2.r2 hR2.blk (by decide)
  have hS2 : W2.heap[w.heap.size]? = some (.cells #[.int .i64 2] tInt (0, 0)) := by rw [hW2]; exact blk_alloc (HO1.out.blk HS.out (fun h => h)) _
  have Tof : ∀ W, Only (fun k => (Value.slice A b.sells.length c).ownBlock = some k) W2 W → W.cell? ⟨C, 3, none⟩ = some (.slice A b.sells.length c) ∧ W.frozen? ⟨C, 3, none⟩ = false ∧ C < W.heap.size ∧ W.cell? ⟨w.heap.size, 0, none⟩ = some (.int .i64 2) ∧ w.heap.size < W.heap.size := fun W ho => by
    have hb := ho.blk hR2.blk hCv
    have hs := ho.blk hS2 (fun e => by have := own_lt HX.out.r2 e; omega)
    exact ⟨blk_cell hb 3, blk_frozen hb 3, blk_lt hb, blk_cell hs 0, blk_lt hs⟩
  have HTof := Lib.hid Tof
  have fin : ∀ (k : Nat), k ≤ b.sells.length → rests 2 o b.sells = b.sells.take k ++ o :: b.sells.drop k → ∀ (v' : Value) (wg : World), wg.ownsRow 0 tR 7 v' (b.sells.length + 1) ((b.sells.take k ++ o :: b.sells.drop k).flatMap Rs.cells) →
      (v'.ownBlock = (Value.slice A b.sells.length c).ownBlock ∨ v'.ownBlock = some W2.heap.size) → Only (fun k => (Value.slice A b.sells.length c).ownBlock = some k) W2 wg →
      BkRep (wg.setCell ⟨C, 3, none⟩ v') C { b with sells := rests 2 o b.sells } v1 v' p6 p7 ∧ (v'.ownBlock = (Value.slice A b.sells.length c).ownBlock ∨ ∃ k, v'.ownBlock = some k ∧ w.heap.size ≤ k) ∧ Only (Mine C v1 (.slice A b.sells.length c)) w (wg.setCell ⟨C, 3, none⟩ v') := by
    intro k hk hre v' wg hown hat hog
    have hb := hog.blk hR2.blk hCv
    have hr2 : wg.ownsRow 0 tR 7 v1 b.buys.length (b.buys.flatMap Rs.cells) := own_only hR2.r1 hog (fun k hk e => hR2.ne k hk e)
    rw [← hre, ← rests_len 2 o b.sells] at hown
    refine ⟨⟨?_, ?_, ?_, fun k hk => ?_⟩, ?_, ?_⟩
    · have := blk_set hb 3 v'
      simpa using this
    · exact own_far hr2 (own_blk_ne hr2 hb (by decide)) _
    · exact own_far hown (own_blk_ne hown hb (by decide)) _
    · rcases hat with e | e
      · rw [e]
        exact HX.out.ne k hk
      · intro h2
        rw [e] at h2
        have h3 := own_lt hR2.r1 hk
        have : W2.heap.size = k := Option.some.inj h2
        omega
    · rcases hat with e | e
      · exact .inl e
      · exact .inr ⟨_, e, hO2.size⟩
    · exact (((hO2.mono (T := Mine C v1 (.slice A b.sells.length c)) (fun _ _ h => h.elim)).trans hog (fun k _ e => .inr (.inr e))).setCell (p := ⟨C, 3, none⟩) (.inl (.inl rfl)) _)
  have Hfin := Lib.hid fin
  obtain ⟨q1, q2, q3, q4, q5, q6, q7, q8, q9, q10, q11, q12, q13⟩ := HSof.out w1 HO1.out
  rw [hW2] at HIns HTof Hfin
  clear fin Tof hS2 hCv hBn hR2 hO2 hW2 hR hvn hO1w
  cases hf : findBy (fun p => ahead 2 o.price p.price) b.sells with
  | some k =>
    have hk0 : (0 : Int) ≤ (k : Int) := by omega
    have hkl := findBy_le hf
    have HR := Lib.hid (Hfin.out k (by omega) (by rw [rests_at]; unfold place; rw [hf]; rfl))
    unfold idx
    simp only
    go_upto_region 5 with fail
    go_region_law ((go_simp; go_at_call 77; (refine (HIns.out k (by omega)).mono ?_); rintro e wg ⟨⟨v', rfl, hown, hat⟩, hog⟩; (obtain ⟨A', c', rfl, _⟩ := own_slice hown); (obtain ⟨r1, r2, r3, r4, r5⟩ := HTof.out wg hog)))
    all_goals
      go_wp2
      go_end0
      exact ⟨rfl, _, HR.out _ _ hown hat hog⟩
  | none =>
    have HR := Lib.hid (Hfin.out b.sells.length (by omega) (by rw [rests_at]; unfold place; rw [hf]; rfl))
    unfold idx
    simp only
    go_upto_region 5 with fail
    go_region_law ((go_simp; go_at_call 77; (refine (HIns.out _ (Nat.le_refl _)).mono ?_); rintro e wg ⟨⟨v', rfl, hown, hat⟩, hog⟩; (obtain ⟨A', c', rfl, _⟩ := own_slice hown); (obtain ⟨r1, r2, r3, r4, r5⟩ := HTof.out wg hog)))
    all_goals
      go_wp2
      go_end0
      exact ⟨rfl, _, HR.out _ _ hown hat hog⟩
/-- The checker's blocks behind: its own, or new ones. -/
def Fresh (w : World) (C : Nat) (v1 v2 v1' v2' : Value) : Prop := ∀ k, Mine C v1' v2' k → Mine C v1 v2 k ∨ w.heap.size ≤ k
theorem rests_any (C : Nat) (s : Int) (b : Bk) (o : Rs) (v1 v2 p6 p7 : Value) (w : World) (h : BkRep w C b v1 v2 p6 p7) (hs : s = 1 ∨ s = 2) (hl : b.count ≤ 1000000) :
    Calls Try.prog 67 #[.pointer (some ⟨C, 0, none⟩), .int .i64 s, .agg o.row] w fun e w' => e = .returned (.tuple #[]) ∧
      ∃ v1' v2', BkRep w' C (b.set s (rests s o (b.side s))) v1' v2' p6 p7 ∧ Fresh w C v1 v2 v1' v2' ∧ Only (Mine C v1 v2) w w' := by
  unfold Bk.count at hl
  rcases hs with rfl | rfl
  · refine (rests_one C b o v1 v2 p6 p7 w h (by omega)).mono fun e w' ⟨h1, v', h2, h3, h4⟩ => ⟨h1, v', v2, h2, fun k hk => ?_, h4⟩
    rcases hk with hk | hk | hk
    · exact .inl (.inl hk)
    · rcases h3 with h3 | ⟨k', h3, h5⟩
      · exact .inl (.inr (.inl (by rw [← h3]; exact hk)))
      · rw [h3] at hk
        have : k' = k := Option.some.inj hk
        exact .inr (by omega)
    · exact .inl (.inr (.inr hk))
  · refine (rests_two C b o v1 v2 p6 p7 w h (by omega)).mono fun e w' ⟨h1, v', h2, h3, h4⟩ => ⟨h1, v1, v', h2, fun k hk => ?_, h4⟩
    rcases hk with hk | hk | hk
    · exact .inl (.inl hk)
    · exact .inl (.inr (.inl hk))
    · rcases h3 with h3 | ⟨k', h3, h5⟩
      · exact .inl (.inr (.inr (by rw [← h3]; exact hk)))
      · rw [h3] at hk
        have : k' = k := Option.some.inj hk
        exact .inr (by omega)
theorem gone_fresh {w : World} {C : Nat} {v1 v2 v1' v2' : Value} (h1 : v1'.ownBlock = v1.ownBlock) (h2 : v2'.ownBlock = v2.ownBlock) : Fresh w C v1 v2 v1' v2' := fun k hk => by
  unfold Mine at *
  rw [h1, h2] at hk
  exact .inl hk
end Ck
end Go.Proofs.Ytcnkbhgdcfckoaa
