/- Lists that are shown, of whatever elements; append onto an own row, of whatever is shown. -/
import Derived.Test.YtcnkbhgdcfckoaaMw
import Derived.Test.YtcnkbhgdcfckoaaMb
import Derived.Test.YtcnkbhgdcfckoaaMf
import Derived.Deep.AppendSrc
import Derived.Deep.LoopGhost
import Derived.BigQuiet
set_option linter.unusedVariables false
set_option linter.unusedSimpArgs false
namespace Go.Proofs.Ytcnkbhgdcfckoaa
open Go.RowKit
namespace Ck
/-- The slice v shows the things l, laid in m cells each, of type T. -/
structure Lst {α : Type} (enc : α → List Value) (T m : Nat) (w : World) (v : Value) (l : List α) : Prop where
  sl : ∃ A c, v = .slice A l.length c ∧ l.length ≤ c ∧ c ≤ 9223372036854775807
  row : l ≠ [] → ∃ g off c cs, v = .slice (some ⟨g, off, none⟩) l.length c ∧ w.heap[g]? = some (.cells cs T (0, 0)) ∧ ∀ (k : Nat) (u : Value), (l.flatMap enc)[k]? = some u → cs[off + k]? = some u
abbrev LR (w : World) (v : Value) (l : List Rs) : Prop := Lst Rs.cells tR 7 w v l
abbrev LE (w : World) (v : Value) (l : List Ev) : Prop := Lst Ev.cells tEvt 13 w v l
section
variable {α : Type} {enc : α → List Value} {T m : Nat} {w w1 : World} {v : Value} {l : List α}
theorem Lst.only {S : Nat → Prop} (h : Lst enc T m w v l) (ho : Only S w w1) (hs : ∀ b, S b → ∃ t, Ty w b t ∧ t ≠ T) : Lst enc T m w1 v l :=
  ⟨h.sl, fun hl => by
    obtain ⟨g, off, c, cs, h1, h2, h3⟩ := h.row hl
    exact ⟨g, off, c, cs, h1, blk_apart h2 ho hs, h3⟩⟩
theorem Lst.nil (h : Lst enc T m w v l) (ho : Only Nil w w1) : Lst enc T m w1 v l := h.only ho (fun _ h => h.elim)
theorem Lst.of_own {base : Nat} (h : w.ownsRow base T m v l.length (l.flatMap enc)) (hm : 0 < m) : Lst enc T m w v l := by
  refine ⟨?_, fun hl => ?_⟩
  · rcases h.2 with ⟨rfl, h0⟩ | ⟨g, cap, cur, rfl, _, _, hnc, hm', _⟩
    · exact ⟨none, 0, by rw [h0], by omega, by omega⟩
    · exact ⟨_, _, rfl, hnc, by simpa [maxLen] using hm'⟩
  · have hpos := List.length_pos_iff.2 hl
    rcases h.2 with ⟨rfl, h0⟩ | ⟨g, cap, cur, rfl, _, hb, hnc, hm', hcs, ht⟩
    · omega
    · refine ⟨g, 0, cap, cur, rfl, hb, fun k u hu => ?_⟩
      have hk : k < l.length * m := by rw [← h.1]; exact (List.getElem?_eq_some_iff.1 hu).1
      rw [← ht, List.getElem?_take_of_lt hk, Array.getElem?_toList] at hu
      rw [Nat.zero_add]
      exact hu
theorem Lst.empty (A : Option Addr) (c : Nat) (hc : c ≤ 9223372036854775807) : Lst enc T m w (.slice A 0 c) ([] : List α) := ⟨⟨A, c, rfl, Nat.zero_le _, hc⟩, fun h => absurd rfl h⟩
end
/-- What a slice gives to an append: its cells. -/
def Gives (w : World) (v : Value) (n : Nat) (news : List Value) : Prop := ∃ A c, v = .slice A n c ∧ (0 < n → ∃ a, A = some a ∧ ∀ (j : Nat) (u : Value), news[j]? = some u → w.cell? (a.add j) = some u)
theorem Lst.gives {α : Type} {enc : α → List Value} {T m : Nat} {w : World} {v : Value} {l : List α} (h : Lst enc T m w v l) : Gives w v l.length (l.flatMap enc) := by
  obtain ⟨A, c, rfl, _, _⟩ := h.sl
  refine ⟨A, c, rfl, fun hpos => ?_⟩
  obtain ⟨g, off, c', cs, h1, h2, h3⟩ := h.row (List.length_pos_iff.1 hpos)
  injection h1 with h1 _ _
  subst h1
  exact ⟨_, rfl, fun j u hu => by rw [Addr.add_lit, blk_cell h2]; exact h3 j u hu⟩
section
variable {P : Program}
theorem run_append_own_any (w : World) (t ty : TypeId) (base : Nat) (e : TypeId) (i : TypeInfo) (z : Value) (size bytes : Nat) (ht : P.underlying t = some (.slice e)) (hi : P.info? e = some i) (hz : i.zero = some z)
    (hsize : i.size = size) (hby : i.bytes = bytes) (hzs : z.cells.size = size) (hsz : 0 < size)
    (v : Value) (n : Nat) (xs : List Value) (hown : w.ownsRow base e size v n xs) (x : Value) (m : Nat) (news : List Value) (hx : Gives w x m news) (hl : news.length = m * size) (h1 : ∀ u ∈ news, u.oneCell' = true)
    (h63 : n + m ≤ maxLen) (hbytes : (n + m) * bytes ≤ 140737488355328) (hbase : base ≤ w.heap.size) :
    ∃ v' w', (Builtin.append_ #[t, t] ty #[v, x]).run P w = .ok v' w' ∧ w'.ownsRow base e size v' (n + m) (xs ++ news) ∧ w.grownBy w' v.ownBlock ∧ (v'.ownBlock = v.ownBlock ∨ v'.ownBlock = some w.heap.size) := by
  obtain ⟨A, c, rfl, hA⟩ := hx
  by_cases hm : 0 < m
  · obtain ⟨a, rfl, hnews⟩ := hA hm
    obtain ⟨v', w', hr, h2, h3, _, h5⟩ := run_append_own_at (P := P) w base t ty e i z size bytes ht hi hz hsize hby hzs hsz v n xs hown a m c news hl hnews h1 h63 hbytes hbase
    exact ⟨v', w', hr, h2, h3, h5⟩
  · have hm0 : m = 0 := by omega
    subst hm0
    have hn0 : news = [] := List.length_eq_zero_iff.1 (by omega)
    subst hn0
    obtain ⟨B, d, rfl, hnd⟩ := own_slice hown
    refine ⟨.slice B n d, w, ?_, by simpa using hown, World.grownBy.refl _ _, .inl rfl⟩
    have hfc : ∀ W : World, (Builtin.firstCells i.size 0 (.slice A 0 c)).run P W = .ok ([] : List Value).toArray W := fun W => by
      cases A with
      | none => exact run_firstCells_none W i.size 0 0 c
      | some a => exact run_firstCells_some W i.size 0 a 0 c [] (by simp) (fun j u h => by simp at h)
    have hs : Src P i.size t (.slice A 0 c) 0 [] w := ⟨.inl ⟨e, ht⟩, fun _ => rfl, hfc w, hfc w.drew, by simp, fun _ h => by cases h⟩
    cases B with
    | none => simp [Builtin.append_, run_underlying ht, sizeOf, typeInfo, hi, hs.len, hnd, hs.cells]
    | some a => simp [Builtin.append_, run_underlying ht, sizeOf, typeInfo, hi, hs.len, hnd, hs.cells, storeCells]
theorem wpList_append_any {w : World} {ops : Array Oper} {rest : List Oper} {o : Oper} {a : Act} {Q : Exit → Act → World → Prop} (hgd : o.guard = none) (s x : Operand) (t : TypeId)
    (ho : o.op = .call { callee := .builtin .append, args := #[s, x], argTypes := #[t, t] })
    (base : Nat) (e : TypeId) (i : TypeInfo) (z : Value) (size bytes : Nat) (ht : P.underlying t = some (.slice e)) (hi : P.info? e = some i) (hz : i.zero = some z)
    (hsize : i.size = size) (hby : i.bytes = bytes) (hzs : z.cells.size = size) (hsz : 0 < size)
    (v : Value) (n : Nat) (xs : List Value) (hs : a.eval s = v) (hown : w.ownsRow base e size v n xs) (u : Value) (m : Nat) (news : List Value) (hx : a.eval x = u) (hg : Gives w u m news) (hl : news.length = m * size) (h1 : ∀ u ∈ news, u.oneCell' = true)
    (h63 : n + m ≤ maxLen) (hbytes : (n + m) * bytes ≤ 140737488355328) (hbase : base ≤ w.heap.size)
    (h : ∀ A c w', w'.ownsRow base e size (.slice A (n + m) c) (n + m) (xs ++ news) → w.grownBy w' v.ownBlock → ((Value.slice A (n + m) c).ownBlock = v.ownBlock ∨ (Value.slice A (n + m) c).ownBlock = some w.heap.size) → wpList P ops Q rest (a.put o.dst (.slice A (n + m) c)) w') : wpList P ops Q (o :: rest) a w :=
  wpList_plain hgd fun _ hK => by
    obtain ⟨v', w', hr, h2, h3, h4⟩ := run_append_own_any (P := P) w t o.type base e i z size bytes ht hi hz hsize hby hzs hsz v n xs hown u m news hg hl h1 h63 hbytes hbase
    obtain ⟨A, c, rfl, _⟩ := own_slice h2
    unfold Oper.wp execOp
    simp only [ho, resolve, invoke, builtin, Sem.run_bind, Sem.run_pure, Result.andThen_ok, List.map_toArray, List.map_cons, List.map_nil, hs, hx, hr]
    exact hK _ _ (h A c w' h2 h3 h4)
theorem step_append_any {w : World} {ops : Array Oper} {o : Oper} {a : Act} {K : Act → World → Prop} {Q : Exit → Act → World → Prop} {E : Prop} (hgd : o.guard = none) (s x : Operand) (t : TypeId)
    (ho : o.op = .call { callee := .builtin .append, args := #[s, x], argTypes := #[t, t] })
    (base : Nat) (e : TypeId) (i : TypeInfo) (z : Value) (size bytes : Nat) (ht : P.underlying t = some (.slice e)) (hi : P.info? e = some i) (hz : i.zero = some z)
    (hsize : i.size = size) (hby : i.bytes = bytes) (hzs : z.cells.size = size) (hsz : 0 < size)
    (v : Value) (n : Nat) (xs : List Value) (hs : a.eval s = v) (hown : w.ownsRow base e size v n xs) (u : Value) (m : Nat) (news : List Value) (hx : a.eval x = u) (hg : Gives w u m news) (hl : news.length = m * size) (h1 : ∀ u ∈ news, u.oneCell' = true)
    (h63 : n + m ≤ maxLen) (hbytes : (n + m) * bytes ≤ 140737488355328) (hbase : base ≤ w.heap.size)
    (h : ∀ A c w', w'.ownsRow base e size (.slice A (n + m) c) (n + m) (xs ++ news) → w.grownBy w' v.ownBlock → ((Value.slice A (n + m) c).ownBlock = v.ownBlock ∨ (Value.slice A (n + m) c).ownBlock = some w.heap.size) → K (a.put o.dst (.slice A (n + m) c)) w') :
    if Region.wanted o (yielded ops a.tmps) = true then Oper.wp P o a w K Q else E := by
  have hw : Region.wanted o (yielded ops a.tmps) = true := by simp [Region.wanted, hgd]
  rw [if_pos hw]
  obtain ⟨v', w', hr, h2, h3, h4⟩ := run_append_own_any (P := P) w t o.type base e i z size bytes ht hi hz hsize hby hzs hsz v n xs hown u m news hg hl h1 h63 hbytes hbase
  obtain ⟨A, c, rfl, _⟩ := own_slice h2
  unfold Oper.wp execOp
  simp only [ho, resolve, invoke, builtin, Sem.run_bind, Sem.run_pure, Result.andThen_ok, List.map_toArray, List.map_cons, List.map_nil, hs, hx, hr]
  exact h A c w' h2 h3 h4
end
end Ck
end Go.Proofs.Ytcnkbhgdcfckoaa
namespace Go.Proofs.Ytcnkbhgdcfckoaa
open Go.RowKit
namespace Ck
/-- A book, as a value. -/
def bkRow (b : Bk) (v1 v2 : Value) : Array Value := #[.int .i64 b.cap, .int .i64 b.meet, v1, v2, .int .u64 b.high, .int .u64 b.seq]
def IsSl (v : Value) : Prop := ∃ A n c, v = .slice A n c
theorem Lst.isSl {α : Type} {enc : α → List Value} {T m : Nat} {w : World} {v : Value} {l : List α} (h : Lst enc T m w v l) : IsSl v := by
  obtain ⟨A, c, h, _⟩ := h.sl
  exact ⟨A, _, c, h⟩
theorem one_bk (b : Bk) {v1 v2 : Value} (h1 : IsSl v1) (h2 : IsSl v2) : (bkRow b v1 v2).all (·.oneCell') = true := by
  obtain ⟨A1, n1, c1, rfl⟩ := h1
  obtain ⟨A2, n2, c2, rfl⟩ := h2
  kernel_rfl
set_option maxHeartbeats 800000 in
set_option maxRecDepth 100000 in
theorem side_any (b : Bk) (v1 v2 : Value) (s : Int) (w : World) (h1 : IsSl v1) (h2 : IsSl v2) :
    Calls Try.prog 29 #[.agg (bkRow b v1 v2), .int .i64 s] w fun e w' => e = .returned (if s = 1 then v1 else if s = 2 then v2 else .slice none 0 0) ∧ Only Nil w w' := by
  obtain ⟨A1, n1, c1, rfl⟩ := h1
  obtain ⟨A2, n2, c2, rfl⟩ := h2
  unfold bkRow
  by_cases hs : s = 1
  · have hs1 : (s == 1) = true := by simp [hs]
    rw [if_pos hs]
    clear hs
    go_enter Try.func29, Try.ntmps29
    go_wp2
    go_ret
    exact ⟨rfl, (Only.refl _ _).alloc _⟩
  · have hs1 : (s == 1) = false := by simp [hs]
    rw [if_neg hs]
    clear hs
    by_cases hs : s = 2
    · have hs2 : (s == 2) = true := by simp [hs]
      rw [if_pos hs]
      clear hs
      go_enter Try.func29, Try.ntmps29
      go_wp2
      go_ret
      exact ⟨rfl, (Only.refl _ _).alloc _⟩
    · have hs2 : (s == 2) = false := by simp [hs]
      rw [if_neg hs]
      clear hs
      go_enter Try.func29, Try.ntmps29
      go_wp2
      go_ret
      exact ⟨rfl, (Only.refl _ _).alloc _⟩
set_option maxHeartbeats 800000 in
set_option maxRecDepth 100000 in
theorem better_any (s p q : Int) (w : World) : Calls Try.prog 65 #[.int .i64 s, .int .i64 p, .int .i64 q] w fun e w' => e = .returned (.bool (better s p q)) ∧ w = w' := by
  unfold better
  by_cases hs : s = 1
  · have hs1 : (s == 1) = true := by simp [hs]
    rw [if_pos hs]
    clear hs
    go_enter Try.func65, Try.ntmps65
    go_wp2
    go_ret
    exact ⟨rfl, rfl⟩
  · have hs1 : (s == 1) = false := by simp [hs]
    rw [if_neg hs]
    clear hs
    go_enter Try.func65, Try.ntmps65
    go_wp2
    go_ret
    exact ⟨rfl, rfl⟩
set_option maxHeartbeats 800000 in
set_option maxRecDepth 100000 in
theorem with_any (b : Bk) (v1 v2 vl : Value) (s : Int) (w : World) (h1 : IsSl v1) (h2 : IsSl v2) (hl : IsSl vl) :
    Calls Try.prog 27 #[.agg (bkRow b v1 v2), .int .i64 s, vl] w fun e w' => e = .returned (.agg (if s = 1 then bkRow b vl v2 else bkRow b v1 vl)) ∧ Only Nil w w' := by
  obtain ⟨A1, n1, c1, rfl⟩ := h1
  obtain ⟨A2, n2, c2, rfl⟩ := h2
  obtain ⟨A3, n3, c3, rfl⟩ := hl
  unfold bkRow
  by_cases hs : s = 1
  · have hs1 : (s == 1) = true := by simp [hs]
    rw [if_pos hs]
    clear hs
    go_enter Try.func27, Try.ntmps27
    go_wp2
    refine bodyPost_ret (results_cell_row rfl _ _ _ _ _ _ _ rfl (blk_new' _ _ (w.heap.size + 1) (by simp)) Try.underlying32 rfl infoBk) rfl ⟨rfl, ((Only.refl _ _).alloc _).alloc _⟩
  · have hs1 : (s == 1) = false := by simp [hs]
    rw [if_neg hs]
    clear hs
    go_enter Try.func27, Try.ntmps27
    go_wp2
    refine bodyPost_ret (results_cell_row rfl _ _ _ _ _ _ _ rfl (blk_new' _ _ (w.heap.size + 1) (by simp)) Try.underlying32 rfl infoBk) rfl ⟨rfl, ((Only.refl _ _).alloc _).alloc _⟩
theorem own_empty (W : World) (T m : Nat) : (W.alloc (.cells #[] T)).ownsRow 0 T m (.slice (some ⟨W.heap.size, 0, none⟩) 0 0) 0 [] := ⟨by simp, .inr ⟨W.heap.size, 0, #[], rfl, Nat.zero_le _, blk_new _ _, Nat.le_refl _, Nat.zero_le _, by simp, by simp⟩⟩
theorem Lst.get {w : World} {A : Option Addr} {n c i : Nat} {l : List Rs} {r : Rs} (h : LR w (.slice A n c) l) (hr : l[i]? = some r) : ∃ g off, A = some ⟨g, off, none⟩ ∧ n = l.length ∧ i < l.length ∧ RsAt w g (off + i * 7) r := by
  have hi := (List.getElem?_eq_some_iff.1 hr).1
  obtain ⟨g, off, c', cs, h1, h2, h3⟩ := h.row (by intro e; rw [e] at hr; simp at hr)
  injection h1 with e1 e2 _
  have key : ∀ k u, k < 7 → r.cells[k]? = some u → w.cell? ⟨g, off + i * 7 + k, none⟩ = some u := fun k u hk hu => by
    rw [blk_cell h2, Nat.add_assoc]
    exact h3 _ _ (by rw [lay_get (fun a _ => a.len) hr hk]; exact hu)
  exact ⟨g, off, e1, e2, hi, ⟨key 0 _ (by omega) rfl, key 1 _ (by omega) rfl, key 2 _ (by omega) rfl, key 3 _ (by omega) rfl, key 4 _ (by omega) rfl, key 5 _ (by omega) rfl, key 6 _ (by omega) rfl, blk_lt h2⟩⟩
set_option maxHeartbeats 1600000 in
set_option maxRecDepth 100000 in
theorem without_any (v : Value) (l : List Rs) (id : Int) (w : World) (h : LR w v l) (hl : l.length ≤ 1000000) :
    Calls Try.prog 28 #[v, .int .u64 id] w fun e w' => (∃ v', e = .returned v' ∧ LR w' v' (without l id) ∧ ∀ k, v'.ownBlock = some k → w.heap.size ≤ k) ∧ Only Nil w w' := by
  obtain ⟨A, c, rfl, hlc, hcm⟩ := h.sl
  obtain ⟨i0, hi0, hz0, hz1, hz2⟩ := info_parts infoRsB
  have HS := Lib.hid h
  clear h
  go_enter Try.func28, Try.ntmps28
  go_wp2
  go_loopg [5, 6] (l.length) (fun m v5 v6 wr => ∃ (k : Nat), k ≤ l.length ∧ m = l.length - k ∧ v6 = .int .i64 k ∧ Hid (wr.ownsRow 0 tR 7 v5 (without (l.take k) id).length ((without (l.take k) id).flatMap Rs.cells)) ∧ Hid (∀ b, v5.ownBlock = some b → w.heap.size ≤ b) ∧ Hid (Only Nil w wr))
  case atStart => exact ⟨0, by omega, by omega, rfl, Lib.hid (own_empty w tR 7), Lib.hid (fun b hb => by have : w.heap.size = b := Option.some.inj hb; omega), Lib.hid ((Only.refl _ _).alloc _)⟩
  case round =>
    obtain ⟨k, hk, hm, rfl, HR, HF, HO⟩ := hrel
    obtain ⟨B, d, hB, _⟩ := own_slice HR.out
    subst hB
    by_cases hlt : k < l.length
    · have hkI : (k : Int) < (l.length : Int) := by omega
      have hx : l[k]? = some l[k] := List.getElem?_eq_getElem hlt
      have hts : l.take (k + 1) = l.take k ++ [l[k]] := List.take_succ_eq_append_getElem hlt
      have hwl : (without (l.take k) id).length ≤ 1000000 := Nat.le_trans (List.length_filter_le _ _) (by rw [List.length_take]; omega)
      obtain ⟨g, off, rfl, _, _, ha⟩ := (HS.out.nil HO.out).get hx
      have a0 := ha.c0
      have a1 := ha.c1
      have a2 := ha.c2
      have a3 := ha.c3
      have a4 := ha.c4
      have a5 := ha.c5
      have a6 := ha.c6
      have lg := ha.lt
      generalize l[k] = x at *
      have HT := Lib.hid hts
      clear ha hx hts
      by_cases he : x.id = id
      · have hb : (x.id != id) = false := by simp [he]
        have hw : without (l.take (k + 1)) id = without (l.take k) id := by rw [HT.out]; unfold without; rw [List.filter_append]; simp [hb]
        have HW := Lib.hid hw
        clear he hw a1 a2 a3 a4 a5 a6
        go_wp2
        go_roundg (l.length - (k + 1))
        case measure => omega
        case rel => exact ⟨k + 1, by omega, rfl, by go_num, by rw [HW.out]; exact HR, HF, HO⟩
      · have hb : (x.id != id) = true := by simp [he]
        have hw : without (l.take (k + 1)) id = without (l.take k) id ++ [x] := by rw [HT.out]; unfold without; rw [List.filter_append]; simp [hb]
        have HW := Lib.hid hw
        clear he hw
        generalize without (l.take k) id = K at *
        go_wp2_with (at_builtin; (refine wpList_append_lies _ rfl (.tmp 21) (.tmp 26) tSl rfl 0 tR i0 _ 7 56 Try.underlying29 hi0 hz0 hz1 hz2 rfl (by omega) (.slice B K.length d) K.length (K.flatMap Rs.cells) rfl (own_only HR.out ((Only.refl Nil _).alloc (.cells x.row tR)) (fun _ _ h => h)) ⟨wr.heap.size, 0, none⟩ 1 1 x.cells rfl rfl (World.news_of_block (blk_new wr (.cells x.row tR))) (by cases x; simp [Rs.cells, Value.oneCell']) (by omega) (by unfold maxLen; omega) (by omega) (by omega) (wr.heap.size + 1) (by simp) ?_); intro g' cap w1 hown hgrow hat hlt')
        go_roundg (l.length - (k + 1))
        case measure => omega
        case rel =>
          have hw0 := HO.out.size
          refine ⟨k + 1, by omega, rfl, by go_num, Lib.hid ?_, Lib.hid (fun b hb => ?_), Lib.hid ?_⟩
          · rw [HW.out]
            simpa using hown
          · have hb' : g' = b := Option.some.inj hb
            rcases hat with e | e
            · exact hb' ▸ HF.out g' e
            · omega
          · exact (HO.out.alloc _).grown hgrow (fun b hb hbw => by have := HF.out b hb; omega)
    · have he : k = l.length := by omega
      subst he
      have hkI : ¬ ((l.length : Int) < (l.length : Int)) := by omega
      rw [List.take_length] at HR HF
      go_wp2
      go_ret
      exact ⟨⟨_, rfl, Lst.of_own HR.out (by omega), HF.out⟩, HO.out⟩
end Ck
end Go.Proofs.Ytcnkbhgdcfckoaa
namespace Go.Proofs.Ytcnkbhgdcfckoaa
open Go.RowKit
namespace Ck
def anyB (s : Int) (o : Rs) (l : List Rs) : Bool := l.any (fun p => better s o.price p.price)
def enqGo (s : Int) (o : Rs) (l : List Rs) : List Rs := if anyB s o l = true then enq s o l else l
theorem enq_none {s : Int} {o : Rs} : ∀ {l : List Rs}, anyB s o l = false → enq s o l = l ++ [o]
  | [], _ => rfl
  | p :: l, h => by
    unfold anyB at h
    rw [List.any_cons, Bool.or_eq_false_iff] at h
    unfold enq
    rw [if_neg (by rw [h.1]; decide), enq_none (l := l) h.2]
    rfl
theorem enq_snoc {s : Int} {o y : Rs} : ∀ {l : List Rs}, anyB s o l = true → enq s o (l ++ [y]) = enq s o l ++ [y]
  | [], h => by simp [anyB] at h
  | p :: l, h => by
    by_cases hp : better s o.price p.price = true
    · simp [enq, hp]
    · have h2 : anyB s o l = true := by
        unfold anyB at h ⊢
        rw [List.any_cons] at h
        simpa [hp] using h
      simp only [List.cons_append, enq, if_neg hp, enq_snoc h2]
theorem enq_new {s : Int} {o y : Rs} : ∀ {l : List Rs}, anyB s o l = false → better s o.price y.price = true → enq s o (l ++ [y]) = l ++ [o] ++ [y]
  | [], _, hy => by simp [enq, hy]
  | p :: l, h, hy => by
    unfold anyB at h
    rw [List.any_cons, Bool.or_eq_false_iff] at h
    have hp : ¬ better s o.price p.price = true := by rw [h.1]; decide
    simp only [List.cons_append, enq, if_neg hp, enq_new (l := l) h.2 hy]
theorem any_snoc (s : Int) (o y : Rs) (l : List Rs) : anyB s o (l ++ [y]) = (anyB s o l || better s o.price y.price) := by simp [anyB]
theorem enqGo_len (s : Int) (o : Rs) (l : List Rs) : (enqGo s o l).length ≤ l.length + 1 := by
  unfold enqGo
  split
  · have : ∀ l : List Rs, (enq s o l).length = l.length + 1 := by
      intro l
      induction l with
      | nil => rfl
      | cons p l ih => unfold enq; split <;> simp [ih]
    have := this l
    omega
  · omega
set_option maxHeartbeats 3200000 in
set_option maxRecDepth 100000 in
theorem enqueued_any (v : Value) (l : List Rs) (s : Int) (o : Rs) (w : World) (h : LR w v l) (hl : l.length ≤ 1000000) :
    Calls Try.prog 46 #[.int .i64 s, v, .agg o.row] w fun e w' => (∃ v', e = .returned v' ∧ LR w' v' (enq s o l) ∧ ∀ k, v'.ownBlock = some k → w.heap.size ≤ k) ∧ Only Nil w w' := by
  obtain ⟨A, c, rfl, hlc, hcm⟩ := h.sl
  obtain ⟨i0, hi0, hz0, hz1, hz2⟩ := info_parts infoRsB
  have HS := Lib.hid h
  have HB := Lib.hid (fun q W => (better_any s o.price q W).mono (fun _ _ ⟨h1, h2⟩ => (⟨h1, h2.symm⟩ : _ ∧ _ = W)))
  clear h
  have HBx := Lib.hid (blk_new w (.cells o.row tR))
  have HOx := Lib.hid ((Only.refl Nil w).alloc (.cells o.row tR))
  have HL := Lib.hid (fun (K : List Rs) (B : Option Addr) (d : Nat) (x : Rs) (W : World) (hR : W.ownsRow 0 tR 7 (.slice B K.length d) K.length (K.flatMap Rs.cells)) => own_only hR ((Only.refl Nil W).alloc (.cells x.row tR)) (fun _ _ h => h))
  go_enter Try.func46, Try.ntmps46
  unfold Rs.row
  go_upto_region 1 with fail
  generalize hW : World.alloc w _ = W0
  have hW' : w.alloc (.cells o.row tR) = W0 := hW
  rw [hW'] at HBx HOx
  clear hW hW'
  go_wp2
  go_loopg [7, 8, 9] (l.length) (fun m v7 v8 v9 wr => ∃ (k : Nat), k ≤ l.length ∧ m = l.length - k ∧ v9 = .int .i64 k ∧ v8 = .bool (anyB s o (l.take k)) ∧ Hid (wr.ownsRow 0 tR 7 v7 (enqGo s o (l.take k)).length ((enqGo s o (l.take k)).flatMap Rs.cells)) ∧ Hid (∀ b, v7.ownBlock = some b → w.heap.size < b) ∧ Hid (Only Nil w wr) ∧ Hid (wr.heap[w.heap.size]? = some (.cells o.row tR (0, 0))))
  case atStart =>
    have hs0 : w.heap.size < W0.heap.size := blk_lt HBx.out
    exact ⟨0, by omega, by omega, rfl, rfl, Lib.hid (own_empty W0 tR 7), Lib.hid (fun b hb => by have : W0.heap.size = b := Option.some.inj hb; omega), Lib.hid (HOx.out.alloc _), Lib.hid (blk_alloc HBx.out _)⟩
  case round =>
    obtain ⟨k, hk, hm, rfl, rfl, HR, HF, HO, HX⟩ := hrel
    obtain ⟨B, d, hB, _⟩ := own_slice HR.out
    subst hB
    obtain ⟨t0, t1, t2, t3, t4, t5, t6, tl⟩ := (show _ from (⟨blk_cell HX.out 0, blk_cell HX.out 1, blk_cell HX.out 2, blk_cell HX.out 3, blk_cell HX.out 4, blk_cell HX.out 5, blk_cell HX.out 6, blk_lt HX.out⟩ : _ ∧ _ ∧ _ ∧ _ ∧ _ ∧ _ ∧ _ ∧ _))
    simp only [Rs.row, List.getElem?_toArray, List.getElem?_cons_zero, List.getElem?_cons_succ] at t0 t1 t2 t3 t4 t5 t6
    by_cases hlt : k < l.length
    · have hkI : (k : Int) < (l.length : Int) := by omega
      have hx : l[k]? = some l[k] := List.getElem?_eq_getElem hlt
      have hts : l.take (k + 1) = l.take k ++ [l[k]] := List.take_succ_eq_append_getElem hlt
      have hwl : (enqGo s o (l.take k)).length ≤ 1000001 := Nat.le_trans (enqGo_len _ _ _) (by rw [List.length_take]; omega)
      have HG := Lib.hid (fun W (ho : Only Nil w W) => (HS.out.nil ho).get hx)
      obtain ⟨g, off, rfl, _, _, ha⟩ := HG.out wr HO.out
      have a0 := ha.c0
      have a1 := ha.c1
      have a2 := ha.c2
      have a3 := ha.c3
      have a4 := ha.c4
      have a5 := ha.c5
      have a6 := ha.c6
      have lg := ha.lt
      generalize l[k] = x at *
      have HT := Lib.hid hts
      clear ha hx hts
      cases hd : anyB s o (l.take k) with
      | true =>
        have hw : enqGo s o (l.take (k + 1)) = enqGo s o (l.take k) ++ [x] := by
          rw [HT.out]
          unfold enqGo
          rw [if_pos (by rw [any_snoc, hd]; rfl), if_pos hd, enq_snoc hd]
        have ha : anyB s o (l.take (k + 1)) = true := by rw [HT.out, any_snoc, hd]; rfl
        have HW := Lib.hid hw
        have HA := Lib.hid ha
        clear hw ha hd
        generalize enqGo s o (l.take k) = K at *
        go_upto_region 6 with fail
        go_quiet (fail)
        go_wp2_with (at_builtin; (refine wpList_append_lies _ rfl (.tmp 34) (.tmp 39) tSl rfl 0 tR i0 _ 7 56 Try.underlying29 hi0 hz0 hz1 hz2 rfl (by omega) (.slice B K.length d) K.length (K.flatMap Rs.cells) rfl (HL.out K B d x _ HR.out) ⟨wr.heap.size, 0, none⟩ 1 1 x.cells rfl rfl (World.news_of_block (blk_new wr (.cells x.row tR))) (by cases x; simp [Rs.cells, Value.oneCell']) (by omega) (by unfold maxLen; omega) (by omega) (by omega) (wr.heap.size + 1) (by simp) ?_); intro g' cap w1 hown hgrow hat hlt')
        go_roundg (l.length - (k + 1))
        case measure => omega
        case rel =>
          have hw0 := HO.out.size
          refine ⟨k + 1, by omega, rfl, by go_num, by rw [HA.out], Lib.hid ?_, Lib.hid (fun b hb => ?_), Lib.hid ?_, Lib.hid ?_⟩
          · rw [HW.out]
            simpa using hown
          · have hb' : g' = b := Option.some.inj hb
            rcases hat with e | e
            · exact hb' ▸ HF.out g' e
            · omega
          · exact ((HO.out.drewN nq).alloc (.cells x.row tR)).grown hgrow (fun b hb hbw => by have := HF.out b hb; omega)
          · exact blk_grown (blk_alloc (blk_drewN HX.out nq) (.cells x.row tR)) hgrow (fun e => by have := HF.out _ e; omega)
      | false =>
        cases hbt : better s o.price x.price with
        | false =>
          have hw : enqGo s o (l.take (k + 1)) = enqGo s o (l.take k) ++ [x] := by
            rw [HT.out]
            unfold enqGo
            rw [if_neg (by rw [any_snoc, hd, hbt]; decide), if_neg (by rw [hd]; decide)]
          have ha : anyB s o (l.take (k + 1)) = false := by rw [HT.out, any_snoc, hd, hbt]; rfl
          have HW := Lib.hid hw
          have HA := Lib.hid ha
          have HBb := Lib.hid (fun W => by have := HB.out x.price W; rw [hbt] at this; exact this)
          clear hw ha hd hbt HB
          generalize enqGo s o (l.take k) = K at *
          go_upto_region 6 with fail
          go_quiet (refine Calls.quiet_of_same (HBb.out _))
          go_wp2_with (at_builtin; (refine wpList_append_lies _ rfl (.tmp 34) (.tmp 39) tSl rfl 0 tR i0 _ 7 56 Try.underlying29 hi0 hz0 hz1 hz2 rfl (by omega) (.slice B K.length d) K.length (K.flatMap Rs.cells) rfl (HL.out K B d x _ HR.out) ⟨wr.heap.size, 0, none⟩ 1 1 x.cells rfl rfl (World.news_of_block (blk_new wr (.cells x.row tR))) (by cases x; simp [Rs.cells, Value.oneCell']) (by omega) (by unfold maxLen; omega) (by omega) (by omega) (wr.heap.size + 1) (by simp) ?_); intro g' cap w1 hown hgrow hat hlt')
          go_roundg (l.length - (k + 1))
          case measure => omega
          case rel =>
            have hw0 := HO.out.size
            refine ⟨k + 1, by omega, rfl, by go_num, by rw [HA.out], Lib.hid ?_, Lib.hid (fun b hb => ?_), Lib.hid ?_, Lib.hid ?_⟩
            · rw [HW.out]
              simpa using hown
            · have hb' : g' = b := Option.some.inj hb
              rcases hat with e | e
              · exact hb' ▸ HF.out g' e
              · omega
            · exact ((HO.out.drewN nq).alloc (.cells x.row tR)).grown hgrow (fun b hb hbw => by have := HF.out b hb; omega)
            · exact blk_grown (blk_alloc (blk_drewN HX.out nq) (.cells x.row tR)) hgrow (fun e => by have := HF.out _ e; omega)
        | true =>
          have hw : enqGo s o (l.take (k + 1)) = enqGo s o (l.take k) ++ [o] ++ [x] := by
            rw [HT.out]
            unfold enqGo
            rw [if_pos (by rw [any_snoc, hd, hbt]; rfl), if_neg (by rw [hd]; decide), enq_new hd hbt]
          have ha : anyB s o (l.take (k + 1)) = true := by rw [HT.out, any_snoc, hd, hbt]; rfl
          have HW := Lib.hid hw
          have HA := Lib.hid ha
          have HBb := Lib.hid (fun W => by have := HB.out x.price W; rw [hbt] at this; exact this)
          clear hw ha hd hbt HB
          generalize enqGo s o (l.take k) = K at *
          go_upto_region 6 with fail
          go_quiet (refine Calls.quiet_of_same (HBb.out _))
          go_upto_region 8 with (at_builtin; (refine wpList_append_lies _ rfl (.tmp 30) (.tmp 32) tSl rfl 0 tR i0 _ 7 56 Try.underlying29 hi0 hz0 hz1 hz2 rfl (by omega) (.slice B K.length d) K.length (K.flatMap Rs.cells) rfl (HL.out K B d o _ HR.out) ⟨wr.heap.size, 0, none⟩ 1 1 o.cells rfl rfl (World.news_of_block (blk_new wr (.cells o.row tR))) (by cases o; simp [Rs.cells, Value.oneCell']) (by omega) (by unfold maxLen; omega) (by omega) (by omega) (wr.heap.size + 1) (by simp) ?_); intro g' cap w1 hown hgrow hat hlt')
          have hw0 := HO.out.size
          have HR1 : Hid (w1.ownsRow 0 tR 7 (.slice (some ⟨g', 0, none⟩) (K ++ [o]).length cap) (K ++ [o]).length ((K ++ [o]).flatMap Rs.cells)) := Lib.hid (by simpa using hown)
          have HF1 : Hid (∀ b, (Value.slice (some ⟨g', 0, none⟩) (K ++ [o]).length cap).ownBlock = some b → w.heap.size < b) := Lib.hid (fun b hb => by
            have hb' : g' = b := Option.some.inj hb
            rcases hat with e | e
            · exact hb' ▸ HF.out g' e
            · omega)
          have HO1 : Hid (Only Nil w w1) := Lib.hid (((HO.out.drewN nq).alloc (.cells o.row tR)).grown hgrow (fun b hb hbw => by have := HF.out b hb; omega))
          have HX1 : Hid (w1.heap[w.heap.size]? = some (.cells o.row tR (0, 0))) := Lib.hid (blk_grown (blk_alloc (blk_drewN HX.out nq) (.cells o.row tR)) hgrow (fun e => by have := HF.out _ e; omega))
          have hln : K.length + 1 = (K ++ [o]).length := by simp
          have hKl : (K ++ [o]).length ≤ 1000002 := by simp; omega
          clear hown hgrow hat hlt' t0 t1 t2 t3 t4 t5 t6 tl a0 a1 a2 a3 a4 a5 a6 lg HR HF HO HX hwl
          obtain ⟨g2, off2, e2, _, _, ha⟩ := HG.out w1 HO1.out
          injection e2 with e2
          injection e2 with e2 e3 _
          subst e2; subst e3
          have a0 := ha.c0
          have a1 := ha.c1
          have a2 := ha.c2
          have a3 := ha.c3
          have a4 := ha.c4
          have a5 := ha.c5
          have a6 := ha.c6
          have lg := ha.lt
          clear ha
          rw [hln]
          generalize K ++ [o] = K2 at *
          go_wp2_with (at_builtin; (refine wpList_append_lies _ rfl (.tmp 34) (.tmp 39) tSl rfl 0 tR i0 _ 7 56 Try.underlying29 hi0 hz0 hz1 hz2 rfl (by omega) (.slice (some ⟨g', 0, none⟩) K2.length cap) K2.length (K2.flatMap Rs.cells) rfl (HL.out K2 _ cap x _ HR1.out) ⟨w1.heap.size, 0, none⟩ 1 1 x.cells rfl rfl (World.news_of_block (blk_new w1 (.cells x.row tR))) (by cases x; simp [Rs.cells, Value.oneCell']) (by omega) (by unfold maxLen; omega) (by omega) (by omega) (w1.heap.size + 1) (by simp) ?_); intro g3 cap3 w3 hown hgrow hat hlt')
          go_roundg (l.length - (k + 1))
          case measure => omega
          case rel =>
            have hw0 := HO1.out.size
            refine ⟨k + 1, by omega, rfl, by go_num, by rw [HA.out], Lib.hid ?_, Lib.hid (fun b hb => ?_), Lib.hid ?_, Lib.hid ?_⟩
            · rw [HW.out]
              simpa using hown
            · have hb' : g3 = b := Option.some.inj hb
              rcases hat with e | e
              · exact hb' ▸ HF1.out g3 e
              · omega
            · exact (HO1.out.alloc (.cells x.row tR)).grown hgrow (fun b hb hbw => by have := HF1.out b hb; omega)
            · exact blk_grown (blk_alloc HX1.out (.cells x.row tR)) hgrow (fun e => by have := HF1.out _ e; omega)
    · have he : k = l.length := by omega
      subst he
      have hkI : ¬ ((l.length : Int) < (l.length : Int)) := by omega
      rw [List.take_length] at HR HF ⊢
      have hwl : (enqGo s o l).length ≤ 1000001 := Nat.le_trans (enqGo_len _ _ _) (by omega)
      cases hd : anyB s o l with
      | true =>
        have HE : Hid (enqGo s o l = enq s o l) := Lib.hid (by unfold enqGo; rw [if_pos hd])
        clear hd
        go_wp2
        go_ret
        exact ⟨⟨_, rfl, HE.out ▸ Lst.of_own HR.out (by omega), fun b hb => Nat.le_of_lt (HF.out b hb)⟩, HO.out⟩
      | false =>
        have HE : Hid (enq s o l = enqGo s o l ++ [o]) := Lib.hid (by unfold enqGo; rw [if_neg (by rw [hd]; decide)]; exact enq_none hd)
        clear hd
        generalize enqGo s o l = K at *
        go_wp2_with (at_builtin; (refine wpList_append_lies _ rfl (.tmp 43) (.tmp 45) tSl rfl 0 tR i0 _ 7 56 Try.underlying29 hi0 hz0 hz1 hz2 rfl (by omega) (.slice B K.length d) K.length (K.flatMap Rs.cells) rfl (HL.out K B d o _ HR.out) ⟨wr.heap.size, 0, none⟩ 1 1 o.cells rfl rfl (World.news_of_block (blk_new wr (.cells o.row tR))) (by cases o; simp [Rs.cells, Value.oneCell']) (by omega) (by unfold maxLen; omega) (by omega) (by omega) (wr.heap.size + 1) (by simp) ?_); intro g' cap w1 hown hgrow hat hlt')
        go_ret
        refine ⟨⟨.slice (some ⟨g', 0, none⟩) (K.length + 1) cap, rfl, ?_, fun b hb => ?_⟩, (HO.out.alloc _).grown hgrow (fun b hb hbw => by have := HF.out b hb; omega)⟩
        · rw [HE.out]
          refine Lst.of_own (base := 0) ?_ (by omega)
          simpa using hown
        · have hb' : g' = b := Option.some.inj hb
          have hs0 := HO.out.size
          rcases hat with q | q
          · exact hb' ▸ Nat.le_of_lt (HF.out g' q)
          · omega
end Ck
end Go.Proofs.Ytcnkbhgdcfckoaa
namespace Go.Proofs.Ytcnkbhgdcfckoaa
open Go.RowKit
namespace Ck
theorem blk_cellsof {w : World} {B : Nat} {b : Bk} {v1 v2 : Value} (h : w.heap[B]? = some (.cells (bkRow b v1 v2) tBk (0, 0))) :
    w.cell? ⟨B, 0, none⟩ = some (.int .i64 b.cap) ∧ w.cell? ⟨B, 1, none⟩ = some (.int .i64 b.meet) ∧ w.cell? ⟨B, 2, none⟩ = some v1 ∧ w.cell? ⟨B, 3, none⟩ = some v2 ∧ w.cell? ⟨B, 4, none⟩ = some (.int .u64 b.high) ∧ w.cell? ⟨B, 5, none⟩ = some (.int .u64 b.seq) ∧ (∀ k, w.frozen? ⟨B, k, none⟩ = false) ∧ B < w.heap.size :=
  ⟨blk_cell h 0, blk_cell h 1, blk_cell h 2, blk_cell h 3, blk_cell h 4, blk_cell h 5, fun k => blk_frozen h k, blk_lt h⟩
theorem rs_flat (l : List Rs) : (l.flatMap Rs.cells).length = l.length * 7 := rs_len l
set_option maxHeartbeats 1600000 in
set_option maxRecDepth 100000 in
theorem copy_any (b : Bk) (v1 v2 : Value) (w : World) (h1 : LR w v1 b.buys) (h2 : LR w v2 b.sells) (hl1 : b.buys.length ≤ 1000000) (hl2 : b.sells.length ≤ 1000000) :
    Calls Try.prog 23 #[.agg (bkRow b v1 v2)] w fun e w' => (∃ v1' v2', e = .returned (.agg (bkRow b v1' v2')) ∧ LR w' v1' b.buys ∧ LR w' v2' b.sells) ∧ Only Nil w w' := by
  obtain ⟨A1, c1, rfl, _⟩ := h1.sl
  obtain ⟨A2, c2, rfl, _⟩ := h2.sl
  obtain ⟨i0, hi0, hz0, hz1, hz2⟩ := info_parts infoRsB
  have H1 := Lib.hid h1
  have H2 := Lib.hid h2
  have HB0 : Hid (((w.alloc (.cells (bkRow b (.slice A1 b.buys.length c1) (.slice A2 b.sells.length c2)) tBk)).alloc (.cells (bk0 0 0) tBk)).heap[w.heap.size]? = some (.cells (bkRow b (.slice A1 b.buys.length c1) (.slice A2 b.sells.length c2)) tBk (0, 0))) := Lib.hid (blk_alloc (blk_new _ _) _)
  have HR0 : Hid (((w.alloc (.cells (bkRow b (.slice A1 b.buys.length c1) (.slice A2 b.sells.length c2)) tBk)).alloc (.cells (bk0 0 0) tBk)).heap[w.heap.size + 1]? = some (.cells (bk0 0 0) tBk (0, 0))) := Lib.hid (blk_new' _ _ _ (by simp))
  have HO0 := Lib.hid (((Only.refl Nil w).alloc (.cells (bkRow b (.slice A1 b.buys.length c1) (.slice A2 b.sells.length c2)) tBk)).alloc (.cells (bk0 0 0) tBk))
  clear h1 h2
  go_enter Try.func23, Try.ntmps23
  unfold bkRow
  go_upto_region 1 with fail
  generalize hW : World.alloc (World.alloc w _) _ = W0
  have hW' : (w.alloc (.cells (bkRow b (.slice A1 b.buys.length c1) (.slice A2 b.sells.length c2)) tBk)).alloc (.cells (bk0 0 0) tBk) = W0 := hW
  rw [hW'] at HB0 HR0 HO0
  clear hW hW'
  have hsz : w.heap.size + 1 < W0.heap.size := blk_lt HR0.out
  have HG1 := Lib.hid ((H1.out.nil (HO0.out.alloc (.cells #[] tR))).gives)
  obtain ⟨b0, b1, b2, b3, b4, b5, bf, bl⟩ := blk_cellsof HB0.out
  go_upto_region 2 with (at_builtin; (refine wpList_append_any rfl (.tmp 3) (.tmp 5) tSl rfl 0 tR i0 _ 7 56 Try.underlying29 hi0 hz0 hz1 hz2 rfl (by omega) (.slice (some ⟨W0.heap.size, 0, none⟩) 0 0) 0 [] rfl (own_empty W0 tR 7) _ b.buys.length (b.buys.flatMap Rs.cells) rfl HG1.out (rs_flat _) (one_flat _) (by unfold maxLen; omega) (by omega) (by omega) ?_); intro A c w1 hown hgrow hat; have HBg := blk_grown (blk_alloc HB0.out (.cells #[] tR)) hgrow (fun q => by have q' : W0.heap.size = w.heap.size := Option.some.inj q; omega); obtain ⟨d0, d1, d2, d3, d4, d5, df, dl⟩ := blk_cellsof HBg)
  generalize hW : World.setCell w1 _ _ = W1
  have hW' : w1.setCell ⟨w.heap.size, 2, none⟩ (.slice A b.buys.length c) = W1 := hW
  have hob : ∀ k, (Value.slice (some ⟨W0.heap.size, 0, none⟩) 0 0).ownBlock = some k → k = W0.heap.size := fun k hk => (Option.some.inj hk).symm
  have hRne : w.heap.size + 1 ≠ w.heap.size := by omega
  have HRg := blk_grown (blk_alloc HR0.out (.cells #[] tR)) hgrow (fun q => by have q' : W0.heap.size = w.heap.size + 1 := Option.some.inj q; omega)
  have hog : Only Nil w w1 := (HO0.out.alloc (.cells #[] tR)).grown hgrow (fun k hk hlt => by have := hob k hk; omega)
  have HB1 : Hid (W1.heap[w.heap.size]? = some (.cells (bkRow b (.slice A b.buys.length c) (.slice A2 b.sells.length c2)) tBk (0, 0))) := Lib.hid (by rw [← hW']; exact blk_set HBg 2 _)
  have HR1 : Hid (W1.heap[w.heap.size + 1]? = some (.cells (bk0 0 0) tBk (0, 0))) := Lib.hid (by rw [← hW']; exact blk_far HRg hRne _)
  have HO1 : Hid (Only Nil w W1) := Lib.hid (by
    rw [← hW']
    have : Only (fun k => k = w.heap.size) w (w1.setCell ⟨w.heap.size, 2, none⟩ (.slice A b.buys.length c)) := (hog.mono (T := fun k => k = w.heap.size) (fun _ _ h => h.elim)).setCell (p := ⟨w.heap.size, 2, none⟩) (.inl rfl) _
    exact this.mono (fun k hk q => by omega))
  have hlr : LR w1 (.slice A b.buys.length c) b.buys := Lst.of_own (base := 0) (by simpa using hown) (by omega)
  have HL1 : Hid (LR W1 (.slice A b.buys.length c) b.buys) := Lib.hid (by
    rw [← hW']
    exact hlr.only ((Only.refl (fun k => k = w.heap.size) w1).setCell (p := ⟨w.heap.size, 2, none⟩) (.inl rfl) _) (fun k hk => ⟨tBk, hk ▸ blk_ty HBg, by decide⟩))
  have hsz1 : w.heap.size + 1 < W1.heap.size := blk_lt HR1.out
  clear hW hW' hob hRne HRg hog hlr hown hgrow hat HBg d0 d1 d2 d3 d4 d5 df dl b0 b1 b2 b3 b4 b5 bf bl HG1 HB0 HR0 HO0 hsz
  have HG1 := Lib.hid ((H2.out.nil (HO1.out.alloc (.cells #[] tR))).gives)
  obtain ⟨b0, b1, b2, b3, b4, b5, bf, bl⟩ := blk_cellsof HB1.out
  go_upto_region 3 with (at_builtin; (refine wpList_append_any rfl (.tmp 8) (.tmp 10) tSl rfl 0 tR i0 _ 7 56 Try.underlying29 hi0 hz0 hz1 hz2 rfl (by omega) (.slice (some ⟨W1.heap.size, 0, none⟩) 0 0) 0 [] rfl (own_empty W1 tR 7) _ b.sells.length (b.sells.flatMap Rs.cells) rfl HG1.out (rs_flat _) (one_flat _) (by unfold maxLen; omega) (by omega) (by omega) ?_); intro A' c' w2 hown hgrow hat; have HBg := blk_grown (blk_alloc HB1.out (.cells #[] tR)) hgrow (fun q => by have q' : W1.heap.size = w.heap.size := Option.some.inj q; omega); obtain ⟨d0, d1, d2, d3, d4, d5, df, dl⟩ := blk_cellsof HBg)
  generalize hW : World.setCell w2 _ _ = W2
  have hW' : w2.setCell ⟨w.heap.size, 3, none⟩ (.slice A' b.sells.length c') = W2 := hW
  have hob : ∀ k, (Value.slice (some ⟨W1.heap.size, 0, none⟩) 0 0).ownBlock = some k → k = W1.heap.size := fun k hk => (Option.some.inj hk).symm
  have hRne : w.heap.size + 1 ≠ w.heap.size := by omega
  have HRg := blk_grown (blk_alloc HR1.out (.cells #[] tR)) hgrow (fun q => by have q' : W1.heap.size = w.heap.size + 1 := Option.some.inj q; omega)
  have hog1 : Only Nil W1 w2 := ((Only.refl Nil W1).alloc (.cells #[] tR)).grown hgrow (fun k hk hlt => by have := hob k hk; omega)
  have hog : Only Nil w w2 := HO1.out.trans hog1 (fun _ _ h => h)
  have hst : Only (fun k => k = w.heap.size) w2 (w2.setCell ⟨w.heap.size, 3, none⟩ (.slice A' b.sells.length c')) := (Only.refl (fun k => k = w.heap.size) w2).setCell (p := ⟨w.heap.size, 3, none⟩) (.inl rfl) _
  have HB2 : Hid (W2.heap[w.heap.size]? = some (.cells (bkRow b (.slice A b.buys.length c) (.slice A' b.sells.length c')) tBk (0, 0))) := Lib.hid (by rw [← hW']; exact blk_set HBg 3 _)
  have HR2 : Hid (W2.heap[w.heap.size + 1]? = some (.cells (bk0 0 0) tBk (0, 0))) := Lib.hid (by rw [← hW']; exact blk_far HRg hRne _)
  have HO2 : Hid (Only Nil w W2) := Lib.hid (by
    rw [← hW']
    have : Only (fun k => k = w.heap.size) w (w2.setCell ⟨w.heap.size, 3, none⟩ (.slice A' b.sells.length c')) := (hog.mono (T := fun k => k = w.heap.size) (fun _ _ h => h.elim)).trans hst (fun _ _ h => h)
    exact this.mono (fun k hk q => by omega))
  have hlr : LR w2 (.slice A' b.sells.length c') b.sells := Lst.of_own (base := 0) (by simpa using hown) (by omega)
  have HL2 : Hid (LR W2 (.slice A' b.sells.length c') b.sells) := Lib.hid (by
    rw [← hW']
    exact hlr.only hst (fun k hk => ⟨tBk, hk ▸ blk_ty HBg, by decide⟩))
  have HL1' : Hid (LR W2 (.slice A b.buys.length c) b.buys) := Lib.hid (by
    rw [← hW']
    exact (HL1.out.nil hog1).only hst (fun k hk => ⟨tBk, hk ▸ blk_ty HBg, by decide⟩))
  clear hW hW' hob hRne HRg hog hog1 hst hlr hown hgrow hat HBg d0 d1 d2 d3 d4 d5 df dl b0 b1 b2 b3 b4 b5 bf bl HG1 HB1 HR1 HO1 HL1 hsz1
  obtain ⟨b0, b1, b2, b3, b4, b5, bf, bl⟩ := blk_cellsof HB2.out
  go_wp2_with (refine wpList_store_row rfl tBk (.tmp 2) (.tmp 13) rfl _ rfl (bkRow b (.slice A b.buys.length c) (.slice A' b.sells.length c')) (bk0 0 0) rfl _ HR2.out infoBk rfl (one_bk b ⟨_, _, _, rfl⟩ ⟨_, _, _, rfl⟩) ?_)
  refine bodyPost_ret (results_cell_row rfl _ _ _ _ _ _ _ rfl (blk_setRow HR2.out _) Try.underlying32 rfl infoBk) rfl ?_
  have hsr : ∀ (cs : Array Value), Only (fun k => k = w.heap.size + 1) W2 (W2.setRow (w.heap.size + 1) cs) := fun cs => (Only.refl (fun k => k = w.heap.size + 1) W2).setRow (.inl rfl) cs
  refine ⟨⟨_, _, rfl, HL1'.out.only (hsr _) (fun k hk => ⟨tBk, hk ▸ blk_ty HR2.out, by decide⟩), HL2.out.only (hsr _) (fun k hk => ⟨tBk, hk ▸ blk_ty HR2.out, by decide⟩)⟩, HO2.out.setRow (.inr (by omega)) _⟩
end Ck
end Go.Proofs.Ytcnkbhgdcfckoaa
