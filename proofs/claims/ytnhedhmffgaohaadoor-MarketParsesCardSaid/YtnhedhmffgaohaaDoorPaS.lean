/- The program's map of commands: how it is made, how it is asked. -/
import Derived.Test.YtnhedhmffgaohaaDoorPaR
import Derived.Maps.OwnSet
import Derived.StringKeys
namespace Go.Proofs.YtnhedhmffgaohaaDoor
open Go.RowKit Go.ChangeMaps
open Go.WideMaps (KeyLaw)
namespace Pa
abbrev tMap : Nat := 48
abbrev tStr : Nat := 9
theorem keyS : KeyLaw Tryd.prog tStr := Go.WideMaps.string_law (by kernel_rfl)
theorem under_map : Tryd.prog.underlying tMap = some (.map tStr tStr) := by kernel_rfl
theorem under_str : Tryd.prog.underlying tStr = some .string := by kernel_rfl
/-- The map at block b holds the table l. -/
def MapIs (w : World) (b : Nat) (l : List (ByteArray × ByteArray)) : Prop := ∃ es clock, w.heap[b]? = some (.map es clock) ∧ es.toList.map (fun e => (e.key, e.val)) = l.map fun p => (Value.string p.1, Value.string p.2)
theorem MapIs.lt {w : World} {b : Nat} {l : List (ByteArray × ByteArray)} (h : MapIs w b l) : b < w.heap.size := by
  obtain ⟨es, clock, hb, _⟩ := h
  exact (Array.getElem?_eq_some_iff.1 hb).1
theorem MapIs.only {w w1 : World} {b : Nat} {l : List (ByteArray × ByteArray)} (h : MapIs w b l) (ho : Only Nil w w1) : MapIs w1 b l := by
  obtain ⟨es, clock, hb, he⟩ := h
  exact ⟨es, clock, ho.blk hb (fun h => h), he⟩
theorem mapKeys {es : Array MapEntry} {l : List (ByteArray × ByteArray)} (he : es.toList.map (fun e => (e.key, e.val)) = l.map fun p => (Value.string p.1, Value.string p.2)) (hl : ∀ p ∈ l, p.1.size ≤ 100) : ∀ e ∈ es.toList, ∃ k, keyOf Tryd.prog tStr e.key = some k := by
  intro e h
  have : (e.key, e.val) ∈ l.map fun p => (Value.string p.1, Value.string p.2) := he ▸ List.mem_map.2 ⟨e, h, rfl⟩
  obtain ⟨p, hp, h2⟩ := List.mem_map.1 this
  injection h2 with h3 h4
  exact ⟨_, by rw [← h3]; exact Go.WideMaps.keyOf_string_mk under_str (by have := hl p hp; unfold maxLen; omega)⟩
theorem only_setBlock {w : World} {b : Nat} (o : Obj) : Only (fun k => k = b) w (setBlock w b o) :=
  ⟨rfl, rfl, rfl, by simp [setBlock], fun i _ hs => by
    show (w.heap.setIfInBounds b o)[i]? = w.heap[i]?
    rw [Array.getElem?_setIfInBounds_ne (fun e => hs e.symm)]⟩
theorem run_insert {w : World} {b : Nat} {l : List (ByteArray × ByteArray)} (h : MapIs w b l) (hl : ∀ p ∈ l, p.1.size ≤ 100) (p : ByteArray × ByteArray) (hp : p.1.size ≤ 100) (hn : ∀ q ∈ l, q.1 ≠ p.1) :
    ∃ w', (Instr.mapUpdate tMap (.map (some b)) (.string p.1) (.string p.2)).run Tryd.prog w = .ok () w' ∧ MapIs w' b (l ++ [p]) ∧ Only (fun k => k = b) w w' := by
  obtain ⟨es, clock, hb, he⟩ := h
  have hk : keyOf Tryd.prog tStr (.string p.1) = some (.string p.1.data.toList) := Go.WideMaps.keyOf_string_mk under_str (by unfold maxLen; omega)
  rcases keyS.find w hk es.toList (mapKeys he hl) with ⟨h1, h2⟩ | ⟨j, e0, h1, h2, h3⟩
  · refine ⟨setBlock w b (.map (es.push { key := .string p.1, val := .string p.2, born := clock }) (clock + 1)), ?_, ?_, only_setBlock _⟩
    · simp only [Instr.mapUpdate, Sem.run_bind, run_underlying under_map, Result.andThen, MapKept.run_getObj_map hb, keyS.check w _ hk, h1, MapKept.run_setObj_map _ hb]
      rfl
    · exact ⟨_, _, heap_setBlock_same hb _, by simp [he]⟩
  · exfalso
    have hm : e0 ∈ es.toList := List.mem_of_getElem? h2
    have : (e0.key, e0.val) ∈ l.map fun p => (Value.string p.1, Value.string p.2) := he ▸ List.mem_map.2 ⟨e0, hm, rfl⟩
    obtain ⟨q, hq, h4⟩ := List.mem_map.1 this
    injection h4 with h5 h6
    rw [h3] at h5
    injection h5 with h7
    exact hn q hq h7
section
variable {ops : Array Oper} {rest : List Oper} {Q : Exit → Act → World → Prop}
theorem wpList_insert {o : Oper} {a : Act} {w : World} {b : Nat} {l : List (ByteArray × ByteArray)} (p : ByteArray × ByteArray) (m : Operand) (hg : o.guard = none) (hop : o.op = .insert tMap m (.const (.string p.1)) (.const (.string p.2))) (hd : o.dst = none)
    (hm : a.eval m = .map (some b)) (h : MapIs w b l) (hl : ∀ p ∈ l, p.1.size ≤ 100) (hp : p.1.size ≤ 100) (hn : ∀ q ∈ l, q.1 ≠ p.1)
    (hK : ∀ w', MapIs w' b (l ++ [p]) → Only (fun k => k = b) w w' → wpList Tryd.prog ops Q rest a w') : wpList Tryd.prog ops Q (o :: rest) a w := by
  refine wpList_plain hg fun K' hK' => ?_
  obtain ⟨w', hrun, r1, r2⟩ := run_insert h hl p hp hn
  have := hK w' r1 r2
  unfold Oper.wp
  have e1 : a.eval (.const (.string p.1)) = .string p.1 := rfl
  have e2 : a.eval (.const (.string p.2)) = .string p.2 := rfl
  simp only [execOp, hop, hm, e1, e2, Sem.run_bind, hrun, Result.andThen]
  have this' : wpList Tryd.prog ops Q rest (a.put o.dst undef) w' := by rw [hd]; exact this
  exact hK' _ _ this'
/-- A row of insertions. -/
theorem wpList_inserts {a : Act} {b : Nat} (m : Operand) (hm : a.eval m = .map (some b)) : ∀ (t : List (ByteArray × ByteArray)) (L rest : List Oper) (l : List (ByteArray × ByteArray)) (w : World),
    L.map (fun o => (o.op, o.dst, o.guard)) = t.map (fun p => (Op.insert tMap m (.const (.string p.1)) (.const (.string p.2)), none, none)) → ((l ++ t).map (·.1)).Nodup → (∀ p ∈ l ++ t, p.1.size ≤ 100) → MapIs w b l →
    (∀ w', MapIs w' b (l ++ t) → Only (fun k => k = b) w w' → wpList Tryd.prog ops Q rest a w') → wpList Tryd.prog ops Q (L ++ rest) a w
  | [], L, rest, l, w, hL, _, _, h, hK => by
    have : L = [] := by simpa using hL
    subst this
    exact hK w (by simpa using h) (Only.refl _ _)
  | p :: t, L, rest, l, w, hL, hnd, hsz, h, hK => by
    obtain ⟨o, L', rfl⟩ : ∃ o L', L = o :: L' := by
      cases L with
      | nil => simp at hL
      | cons o L' => exact ⟨o, L', rfl⟩
    simp only [List.map_cons, List.cons.injEq, Prod.mk.injEq] at hL
    obtain ⟨⟨h1, h2, h3⟩, h4⟩ := hL
    refine wpList_insert p m h3 h1 h2 hm h (fun q hq => hsz q (by simp [hq])) (hsz p (by simp)) (fun q hq e => ?_) (fun w' r1 r2 => ?_)
    · rw [List.map_append, List.map_cons, List.nodup_append] at hnd
      exact hnd.2.2 _ (List.mem_map.2 ⟨q, hq, rfl⟩) p.1 (by simp) e
    · refine wpList_inserts m hm t L' rest (l ++ [p]) w' h4 (by simpa using hnd) (by simpa using hsz) r1 (fun w'' s1 s2 => ?_)
      exact hK w'' (by simpa using s1) (r2.trans s2 (fun _ _ h => h))
theorem wpList_tbl {a : Act} {b : Nat} {w : World} {L : List Oper} (m : Operand) (hm : a.eval m = .map (some b)) (n : Nat) (t : List (ByteArray × ByteArray))
    (hL : (L.take n).map (fun o => (o.op, o.dst, o.guard)) = t.map (fun p => (Op.insert tMap m (.const (.string p.1)) (.const (.string p.2)), none, none))) (hnd : (t.map (·.1)).Nodup) (hsz : ∀ p ∈ t, p.1.size ≤ 100) (h : MapIs w b [])
    (hK : ∀ w', MapIs w' b t → Only (fun k => k = b) w w' → wpList Tryd.prog ops Q (L.drop n) a w') : wpList Tryd.prog ops Q L a w := by
  have := wpList_inserts (ops := ops) (Q := Q) m hm t (L.take n) (L.drop n) [] w hL (by simpa using hnd) (by simpa using hsz) h (fun w' r1 r2 => hK w' (by simpa using r1) r2)
  rwa [List.take_append_drop] at this
end
theorem tbl_size : ∀ p ∈ tbl, p.1.size ≤ 100 := by
  have : tbl.all (fun p => decide (p.1.size ≤ 100)) = true := by kernel_rfl
  intro p hp
  simpa using List.all_eq_true.1 this p hp
theorem tbl_nodup : (tbl.map (·.1)).Nodup := by
  have h : ((tbl.map (·.1)).map (fun s => s.data.toList)).Nodup := by
    have : decide ((tbl.map (·.1)).map (fun s => s.data.toList)).Nodup = true := by kernel_rfl
    exact of_decide_eq_true this
  exact (List.pairwise_map.1 h).imp (fun hne e => hne (by rw [e]))
theorem map_new (w : World) : MapIs (w.alloc (.map #[] 0)) w.heap.size [] := ⟨#[], 0, heap_alloc_new w _, rfl⟩
set_option maxHeartbeats 1600000 in
set_option maxRecDepth 100000 in
theorem shapes_any (w : World) :
    Calls Tryd.prog 15 #[] w fun e w' => ∃ b, e = .returned (.map (some b)) ∧ MapIs w' b tbl ∧ Only Nil w w' := by
  have hmk := run_makeMap (P := Tryd.prog) 48 w
  go_enter Tryd.func15, Tryd.ntmps15
  go_upto_region 1 with fail
  go_wp2_with (refine wpList_tbl (.tmp 1) rfl 34 tbl (by kernel_rfl) tbl_nodup tbl_size (map_new w) ?_; intro w1 hm ho)
  go_ret
  exact ⟨_, rfl, hm, ((Only.refl Nil w).alloc _).trans ho (fun i hi e => by omega)⟩
theorem ba_of {x s : ByteArray} (h : x.data.toList = s.data.toList) : x = s := by
  have h5 : x.data = s.data := Array.toList_inj.1 h
  cases x
  cases s
  simp only at h5
  rw [h5]
theorem look_mem {s : ByteArray} : ∀ {l : List (ByteArray × ByteArray)}, (l.map (·.1)).Nodup → ∀ p ∈ l, p.1 = s → look s l = some p.2
  | q :: l, hn, p, hp, e => by
    rcases List.mem_cons.1 hp with rfl | hp
    · simp [look, e]
    · have h1 : ¬ (q.1.toList == s.toList) = true := fun h2 => by
        have h3 : q.1 = s := by
          rw [ByteArray.toList_eq, ByteArray.toList_eq] at h2
          exact ba_of (eq_of_beq h2)
        exact (List.pairwise_cons.1 hn).1 p.1 (List.mem_map.2 ⟨p, hp, rfl⟩) (h3.trans e.symm)
      simp only [look, h1]
      exact look_mem (List.pairwise_cons.1 hn).2 p hp e
theorem run_look_of {w : World} {b : Nat} {l : List (ByteArray × ByteArray)} (h : MapIs w b l) (hnd : (l.map (·.1)).Nodup) (hsz : ∀ p ∈ l, p.1.size ≤ 100) (s : ByteArray) (hs : s.size ≤ 4096) :
    (Instr.lookup tMap (.map (some b)) (.string s) true).run Tryd.prog w = .ok (.tuple #[.string ((look s l).getD ⟨#[]⟩), .bool (look s l).isSome]) w := by
  obtain ⟨es, clock, hb, he⟩ := h
  have hk : keyOf Tryd.prog tStr (.string s) = some (.string s.data.toList) := Go.WideMaps.keyOf_string_mk under_str (by unfold maxLen; omega)
  have hz : (zeroValue tStr).run Tryd.prog w = .ok (.string ⟨#[]⟩) w := Tryd.zeroValue9 w
  rcases keyS.find w hk es.toList (mapKeys he hsz) with ⟨h1, h2⟩ | ⟨j, e0, h1, h2, h3⟩
  · have hl : look s l = none := look_none (fun j q hq => bne_of (fun e => by
      have hm : (Value.string q.1, Value.string q.2) ∈ l.map fun p => (Value.string p.1, Value.string p.2) := List.mem_map.2 ⟨q, List.mem_of_getElem? hq, rfl⟩
      rw [← he] at hm
      obtain ⟨x, hx, h4⟩ := List.mem_map.1 hm
      injection h4 with h5 h6
      have h7 := ba_of e
      rw [h7] at h5
      exact h2 x hx h5))
    rw [hl]
    simp [Instr.lookup, run_underlying under_map, MapKept.run_getObj_map hb, keyS.check w _ hk, h1, hz, Result.andThen]
  · have hm : e0 ∈ es.toList := List.mem_of_getElem? h2
    have : (e0.key, e0.val) ∈ l.map fun p => (Value.string p.1, Value.string p.2) := he ▸ List.mem_map.2 ⟨e0, hm, rfl⟩
    obtain ⟨q, hq, h4⟩ := List.mem_map.1 this
    injection h4 with h5 h6
    rw [h3] at h5
    injection h5 with h7
    rw [look_mem hnd q hq h7]
    simp [Instr.lookup, run_underlying under_map, MapKept.run_getObj_map hb, keyS.check w _ hk, h1, Result.andThen, ← h6]
theorem run_look {w : World} {b : Nat} (h : MapIs w b tbl) (s : ByteArray) (hs : s.size ≤ 4096) :
    (Instr.lookup tMap (.map (some b)) (.string s) true).run Tryd.prog w = .ok (.tuple #[.string ((look s tbl).getD ⟨#[]⟩), .bool (look s tbl).isSome]) w := run_look_of h tbl_nodup tbl_size s hs
end Pa
end Go.Proofs.YtnhedhmffgaohaaDoor
