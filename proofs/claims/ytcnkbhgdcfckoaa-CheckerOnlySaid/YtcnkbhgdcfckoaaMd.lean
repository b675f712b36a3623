/- Orders in memory; the walks of ahead, meets, and of slices.IndexFunc with the checker's two closures. -/
import Derived.Test.YtcnkbhgdcfckoaaMb
import Derived.Test.YtcnkbhgdcfckoaaMa
import Derived.Deep.LoopGhost
import Derived.Deep.RegionHeld3
import Derived.Deep.RegionLaw
import Derived.BigQuiet
import Derived.Outline
set_option linter.unusedVariables false
set_option linter.unusedSimpArgs false
namespace Go.Proofs.Ytcnkbhgdcfckoaa
open Go.RowKit
namespace Ck
abbrev tU64 : Nat := 30
abbrev tInt : Nat := 3
abbrev tRs : Nat := 29
abbrev tCg : Nat := 96
abbrev tRp : Nat := 81
def Rs.v (r : Rs) : Value := .agg #[.int .u64 r.id, .int .u32 r.mem, .int .i64 r.typ, .int .i64 r.price, .int .u64 r.vis, .int .u64 r.hid, .int .u64 r.peak]
def Ev.v (e : Ev) : Value := .agg #[.int .u64 e.seq, .int .i64 e.kind, .int .u64 e.id, .int .u64 e.other, .int .u64 e.target, .int .u32 e.mem, .int .i64 e.side, .int .i64 e.typ, .int .i64 e.price, .int .u64 e.qty, .int .u64 e.peak, .int .i64 e.reason, .int .i64 e.code]
/-- The slice v shows the orders l. -/
structure Shows (w : World) (v : Value) (l : List Rs) : Prop where
  sl : ∃ A c, v = .slice A l.length c ∧ l.length ≤ c ∧ c ≤ 9223372036854775807
  els : ∀ i r, l[i]? = some r → ∃ g off, (∃ c, v = .slice (some ⟨g, off, none⟩) l.length c) ∧ g < w.heap.size ∧ ∀ k u, r.cells[k]? = some u → w.cell? ⟨g, off + i * 7 + k, none⟩ = some u
section
variable {w w1 : World} {v : Value} {l : List Rs}
theorem Shows.nil (h : Shows w v l) (ho : Only Nil w w1) : Shows w1 v l :=
  ⟨h.sl, fun i r hr => by
    obtain ⟨g, off, hv, hg, hc⟩ := h.els i r hr
    exact ⟨g, off, hv, Nat.lt_of_lt_of_le hg ho.size, fun k u hu => by rw [ho.cell (p := ⟨g, off + i * 7 + k, none⟩) hg (fun h => h)]; exact hc k u hu⟩⟩
structure RsAt (w : World) (g o : Nat) (r : Rs) : Prop where
  c0 : w.cell? ⟨g, o, none⟩ = some (.int .u64 r.id)
  c1 : w.cell? ⟨g, o + 1, none⟩ = some (.int .u32 r.mem)
  c2 : w.cell? ⟨g, o + 2, none⟩ = some (.int .i64 r.typ)
  c3 : w.cell? ⟨g, o + 3, none⟩ = some (.int .i64 r.price)
  c4 : w.cell? ⟨g, o + 4, none⟩ = some (.int .u64 r.vis)
  c5 : w.cell? ⟨g, o + 5, none⟩ = some (.int .u64 r.hid)
  c6 : w.cell? ⟨g, o + 6, none⟩ = some (.int .u64 r.peak)
  lt : g < w.heap.size
theorem Shows.get {A : Option Addr} {n c i : Nat} {r : Rs} (h : Shows w (.slice A n c) l) (hr : l[i]? = some r) : ∃ g off, A = some ⟨g, off, none⟩ ∧ n = l.length ∧ i < l.length ∧ RsAt w g (off + i * 7) r := by
  obtain ⟨g, off, ⟨c', hv⟩, hg, hc⟩ := h.els i r hr
  injection hv with h1 h2 _
  exact ⟨g, off, h1, h2, (List.getElem?_eq_some_iff.1 hr).1, ⟨hc 0 _ rfl, hc 1 _ rfl, hc 2 _ rfl, hc 3 _ rfl, hc 4 _ rfl, hc 5 _ rfl, hc 6 _ rfl, hg⟩⟩
theorem Shows.slice (h : Shows w v l) : ∃ A c, v = .slice A l.length c ∧ l.length ≤ c ∧ c ≤ 9223372036854775807 := h.sl
/-- A row that is owned shows. -/
theorem Shows.own {base : Nat} (h : w.ownsRow base tR 7 v l.length (l.flatMap Rs.cells)) : Shows w v l := by
  refine ⟨?_, fun i r hr => ?_⟩
  · rcases h.2 with ⟨rfl, h0⟩ | ⟨g, cap, cur, rfl, _, _, hnc, hm, _⟩
    · exact ⟨none, 0, by rw [h0], by omega, by omega⟩
    · exact ⟨_, _, rfl, hnc, by simpa [maxLen] using hm⟩
  · have hi := (List.getElem?_eq_some_iff.1 hr).1
    obtain ⟨g, c, rfl, hg, _⟩ := own_row h (by omega)
    refine ⟨g, 0, ⟨c, rfl⟩, hg, fun k u hu => ?_⟩
    have hk : k < 7 := by
      have := (List.getElem?_eq_some_iff.1 hu).1
      simpa [Rs.cells] using this
    rw [Nat.zero_add]
    exact own_cell h (by rw [lay_get (fun a _ => a.len) hr hk]; exact hu)
end

theorem ahead_cases (side p q : Int) : ((side == 1) = true ∧ decide (q < p) = true ∧ ahead side p q = true) ∨ ((side == 1) = true ∧ decide (q < p) = false ∧ (side == 2) = false ∧ ahead side p q = false) ∨
    ((side == 1) = false ∧ (side == 2) = true ∧ ahead side p q = decide (p < q)) ∨ ((side == 1) = false ∧ (side == 2) = false ∧ ahead side p q = false) := by
  unfold ahead
  by_cases h1 : side = 1
  · subst h1
    by_cases h2 : q < p <;> simp [h2]
  · by_cases h2 : side = 2
    · subst h2; simp
    · simp [h1, h2]
set_option maxHeartbeats 400000 in
set_option maxRecDepth 100000 in
theorem ahead_any (side p q : Int) (w : World) : Calls Try.prog 75 #[.int .i64 side, .int .i64 p, .int .i64 q] w fun e w' => e = .returned (.bool (ahead side p q)) ∧ w = w' := by
  rcases ahead_cases side p q with ⟨h1, h2, h3⟩ | ⟨h1, h2, h3, h4⟩ | ⟨h1, h2, h3⟩ | ⟨h1, h2, h3⟩
  all_goals
    first | rw [h3] | rw [h4]
    go_enter Try.func75, Try.ntmps75
    go_wp2
    go_ret
    exact ⟨rfl, rfl⟩
set_option maxHeartbeats 400000 in
set_option maxRecDepth 100000 in
theorem meets_any (side kind own price : Int) (w : World) : Calls Try.prog 66 #[.int .i64 side, .int .i64 kind, .int .i64 own, .int .i64 price] w fun e w' => e = .returned (.bool (meets side kind own price)) ∧ w = w' := by
  have HA := Lib.hid (fun W => ahead_any side price own W)
  unfold meets
  by_cases h : kind = 2
  · subst h
    clear HA
    go_enter Try.func66, Try.ntmps66
    go_wp2
    go_ret
    exact ⟨rfl, rfl⟩
  · have hk : (kind == 2) = false := by simp [h]
    rw [hk]
    clear h
    generalize ahead side price own = b at *
    go_enter Try.func66, Try.ntmps66
    go_wp2_with fail
    refine (HA.out _).mono ?_
    rintro e w1 ⟨rfl, rfl⟩
    go_wp2
    go_ret
    exact ⟨rfl, rfl⟩
end Ck
end Go.Proofs.Ytcnkbhgdcfckoaa
namespace Go.Proofs.Ytcnkbhgdcfckoaa
open Go.RowKit
namespace Ck
theorem findAt_some {id : Int} : ∀ {l : List Rs} {k : Nat} {r : Rs}, (∀ (j : Nat) (s : Rs), j < k → l[j]? = some s → s.id ≠ id) → l[k]? = some r → r.id = id → findAt id l = some k
  | [], k, r, _, h, _ => by simp at h
  | s :: l, 0, r, _, h, hr => by
    simp at h; subst h
    unfold findAt; rw [if_pos hr]
  | s :: l, k + 1, r, hn, h, hr => by
    unfold findAt
    rw [if_neg (hn 0 s (by omega) rfl), findAt_some (l := l) (k := k) (fun j s hj hs => hn (j + 1) s (by omega) (by simpa using hs)) (by simpa using h) hr]
    rfl
theorem findAt_none {id : Int} : ∀ {l : List Rs}, (∀ (j : Nat) (s : Rs), l[j]? = some s → s.id ≠ id) → findAt id l = none
  | [], _ => rfl
  | s :: l, hn => by
    unfold findAt
    rw [if_neg (hn 0 s rfl), findAt_none (fun j s hs => hn (j + 1) s (by simpa using hs))]
    rfl
theorem findAt_lt {id : Int} : ∀ {l : List Rs} {k : Nat}, findAt id l = some k → ∃ r, l[k]? = some r ∧ r.id = id
  | [], k, h => by simp [findAt] at h
  | s :: l, k, h => by
    unfold findAt at h
    by_cases hs : s.id = id
    · rw [if_pos hs] at h
      injection h with h
      subst h
      exact ⟨s, rfl, hs⟩
    · rw [if_neg hs] at h
      cases hf : findAt id l with
      | none => rw [hf] at h; cases h
      | some j =>
        rw [hf] at h
        injection h with h
        subst h
        obtain ⟨r, h1, h2⟩ := findAt_lt hf
        exact ⟨r, by simpa using h1, h2⟩
def idx (o : Option Nat) : Int := match o with | some i => (i : Int) | none => -1

set_option maxHeartbeats 400000 in
set_option maxRecDepth 100000 in
theorem isId (r : Rs) (id : Int) (B : Nat) (w : World) (h : w.heap[B]? = some (.cells #[.int .u64 id] tU64 (0, 0))) :
    Calls Try.prog 73 #[r.v, .pointer (some ⟨B, 0, none⟩)] w fun e w' => e = .returned (.bool (r.id == id)) ∧ Only Nil w w' := by
  have c0 := blk_cell h 0
  have l0 := blk_lt h
  simp only [List.getElem?_toArray, List.getElem?_cons_zero] at c0
  clear h
  unfold Rs.v
  go_enter Try.func73, Try.ntmps73
  go_wp2
  go_ret
  exact ⟨rfl, (Only.refl _ _).alloc _⟩
set_option maxHeartbeats 800000 in
set_option maxRecDepth 100000 in
theorem index_id (id : Int) (B : Nat) (v : Value) (l : List Rs) (w : World) (h : w.heap[B]? = some (.cells #[.int .u64 id] tU64 (0, 0))) (hs : Shows w v l) :
    Calls Try.prog 72 #[v, .func (.func 73) #[] #[.pointer (some ⟨B, 0, none⟩)]] w fun e w' => e = .returned (.int .i64 (idx (findAt id l))) ∧ Only Nil w w' := by
  obtain ⟨A, c, rfl, hlc, hcm⟩ := hs.slice
  have HP := Lib.hid (fun r W hW => isId r id B W hW)
  have HB := Lib.hid h
  have HS := Lib.hid hs
  unfold Rs.v at HP
  clear h hs
  go_enter Try.func72, Try.ntmps72
  go_wp2
  go_loopg [8] (l.length) (fun m v8 wr => ∃ k : Nat, k ≤ l.length ∧ m = l.length - k ∧ v8 = .int .i64 k ∧ Hid (∀ j s, j < k → l[j]? = some s → s.id ≠ id) ∧ Hid (Only Nil w wr))
  case atStart => exact ⟨0, by omega, by omega, rfl, Lib.hid (fun j s hj => by omega), Lib.hid (Only.refl _ _)⟩
  case round =>
    obtain ⟨k, hk, hm, rfl, HN, HO⟩ := hrel
    by_cases hlt : k < l.length
    · have hkI : (k : Int) < (l.length : Int) := by omega
      have hx : l[k]? = some l[k] := List.getElem?_eq_getElem hlt
      obtain ⟨g, off, rfl, _, _, ha⟩ := (HS.out.nil HO.out).get hx
      have a0 := ha.c0
      have a1 := ha.c1
      have a2 := ha.c2
      have a3 := ha.c3
      have a4 := ha.c4
      have a5 := ha.c5
      have a6 := ha.c6
      have lg := ha.lt
      have HX := Lib.hid hx
      generalize l[k] = x at *
      clear ha hx
      go_wp2_with fail
      refine (HP.out x _ (HO.out.blk HB.out (fun h => h))).mono ?_
      rintro e w1 ⟨rfl, ho⟩
      have HO1 := Lib.hid (HO.out.trans (S := Nil) ho (fun _ _ h => h))
      clear a0 a1 a2 a3 a4 a5 a6 lg ho
      by_cases he : x.id = id
      · have hf := findAt_some HN.out HX.out he
        have hb : (x.id == id) = true := by simp [he]
        rw [hb]
        clear he hb
        go_wp2
        go_ret
        exact ⟨by rw [hf]; rfl, HO1.out⟩
      · have hb : (x.id == id) = false := by simp [he]
        have HN1 : Hid (∀ j s, j < k + 1 → l[j]? = some s → s.id ≠ id) := Lib.hid (fun j s hj hs => by
          by_cases hjk : j = k
          · subst hjk; rw [HX.out] at hs; injection hs with hs; subst hs; exact he
          · exact HN.out j s (by omega) hs)
        rw [hb]
        clear he hb HN
        go_wp2
        go_roundg (l.length - (k + 1))
        case measure => omega
        case rel => exact ⟨k + 1, by omega, rfl, by go_num, HN1, HO1⟩
    · have he : k = l.length := by omega
      have hf : findAt id l = none := findAt_none (fun j s hs => HN.out j s (by have := (List.getElem?_eq_some_iff.1 hs).1; omega) hs)
      have hkI : ¬ ((k : Int) < (l.length : Int)) := by omega
      clear he
      go_wp2
      go_ret
      exact ⟨rfl, HO.out⟩
def findBy (f : Rs → Bool) : List Rs → Option Nat
  | [] => none
  | r :: l => if f r = true then some 0 else (findBy f l).map (· + 1)
theorem findBy_some {f : Rs → Bool} : ∀ {l : List Rs} {k : Nat} {r : Rs}, (∀ (j : Nat) (s : Rs), j < k → l[j]? = some s → f s = false) → l[k]? = some r → f r = true → findBy f l = some k
  | [], k, r, _, h, _ => by simp at h
  | s :: l, 0, r, _, h, hr => by
    simp at h; subst h
    unfold findBy; rw [if_pos hr]
  | s :: l, k + 1, r, hn, h, hr => by
    unfold findBy
    rw [if_neg (by rw [hn 0 s (by omega) rfl]; decide), findBy_some (l := l) (k := k) (fun j s hj hs => hn (j + 1) s (by omega) (by simpa using hs)) (by simpa using h) hr]
    rfl
theorem findBy_none {f : Rs → Bool} : ∀ {l : List Rs}, (∀ (j : Nat) (s : Rs), l[j]? = some s → f s = false) → findBy f l = none
  | [], _ => rfl
  | s :: l, hn => by
    unfold findBy
    rw [if_neg (by rw [hn 0 s rfl]; decide), findBy_none (fun j s hs => hn (j + 1) s (by simpa using hs))]
    rfl
theorem findBy_le {f : Rs → Bool} : ∀ {l : List Rs} {k : Nat}, findBy f l = some k → k < l.length
  | [], k, h => by simp [findBy] at h
  | s :: l, k, h => by
    unfold findBy at h
    by_cases hs : f s = true
    · rw [if_pos hs] at h; injection h with h; subst h; simp
    · rw [if_neg hs] at h
      cases hf : findBy f l with
      | none => rw [hf] at h; cases h
      | some j =>
        rw [hf] at h
        injection h with h
        subst h
        have := findBy_le hf
        simp; omega
/-- Where an order comes to rest. -/
def place (side price : Int) (l : List Rs) : Nat := (findBy (fun p => ahead side price p.price) l).getD l.length
theorem place_le (side price : Int) (l : List Rs) : place side price l ≤ l.length := by
  unfold place
  cases h : findBy (fun p => ahead side price p.price) l with
  | none => exact Nat.le_refl _
  | some k => exact Nat.le_of_lt (findBy_le h)
theorem rests_at (side : Int) (o : Rs) : ∀ (l : List Rs), rests side o l = l.take (place side o.price l) ++ o :: l.drop (place side o.price l)
  | [] => rfl
  | p :: l => by
    have ih := rests_at side o l
    unfold rests place findBy
    by_cases h : ahead side o.price p.price = true
    · rw [if_pos h, if_pos h]; rfl
    · rw [if_neg h, if_neg h, ih]
      unfold place
      cases hf : findBy (fun p => ahead side o.price p.price) l <;> simp
set_option maxHeartbeats 400000 in
set_option maxRecDepth 100000 in
theorem isAhead (r o : Rs) (side : Int) (S B : Nat) (w : World) (h : w.heap[S]? = some (.cells #[.int .i64 side] tInt (0, 0))) (h2 : w.heap[B]? = some (.cells #[.int .u64 o.id, .int .u32 o.mem, .int .i64 o.typ, .int .i64 o.price, .int .u64 o.vis, .int .u64 o.hid, .int .u64 o.peak] tR (0, 0))) :
    Calls Try.prog 76 #[r.v, .pointer (some ⟨S, 0, none⟩), .pointer (some ⟨B, 0, none⟩)] w fun e w' => e = .returned (.bool (ahead side o.price r.price)) ∧ Only Nil w w' := by
  have c0 := blk_cell h 0
  have l0 := blk_lt h
  have d3 := blk_cell h2 3
  have l2 := blk_lt h2
  simp only [List.getElem?_toArray, List.getElem?_cons_zero, List.getElem?_cons_succ] at c0 d3
  have HA := Lib.hid (fun W => ahead_any side o.price r.price W)
  clear h h2
  unfold Rs.v
  go_enter Try.func76, Try.ntmps76
  go_wp2_with fail
  refine (HA.out _).mono ?_
  rintro e w1 ⟨rfl, rfl⟩
  go_wp2
  go_ret
  exact ⟨rfl, (Only.refl _ _).alloc _⟩
set_option maxHeartbeats 800000 in
set_option maxRecDepth 100000 in
theorem index_ahead (side : Int) (o : Rs) (S B : Nat) (v : Value) (l : List Rs) (w : World) (h : w.heap[S]? = some (.cells #[.int .i64 side] tInt (0, 0))) (h2 : w.heap[B]? = some (.cells #[.int .u64 o.id, .int .u32 o.mem, .int .i64 o.typ, .int .i64 o.price, .int .u64 o.vis, .int .u64 o.hid, .int .u64 o.peak] tR (0, 0))) (hs : Shows w v l) :
    Calls Try.prog 72 #[v, .func (.func 76) #[] #[.pointer (some ⟨S, 0, none⟩), .pointer (some ⟨B, 0, none⟩)]] w fun e w' => e = .returned (.int .i64 (idx (findBy (fun p => ahead side o.price p.price) l))) ∧ Only Nil w w' := by
  obtain ⟨A, c, rfl, hlc, hcm⟩ := hs.slice
  have HP := Lib.hid (fun r W hW hW2 => isAhead r o side S B W hW hW2)
  have HB := Lib.hid h
  have HB2 := Lib.hid h2
  have HS := Lib.hid hs
  unfold Rs.v at HP
  clear h h2 hs
  go_enter Try.func72, Try.ntmps72
  go_wp2
  go_loopg [8] (l.length) (fun m v8 wr => ∃ k : Nat, k ≤ l.length ∧ m = l.length - k ∧ v8 = .int .i64 k ∧ Hid (∀ j s, j < k → l[j]? = some s → ahead side o.price s.price = false) ∧ Hid (Only Nil w wr))
  case atStart => exact ⟨0, by omega, by omega, rfl, Lib.hid (fun j s hj => by omega), Lib.hid (Only.refl _ _)⟩
  case round =>
    obtain ⟨k, hk, hm, rfl, HN, HO⟩ := hrel
    by_cases hlt : k < l.length
    · have hkI : (k : Int) < (l.length : Int) := by omega
      have hx : l[k]? = some l[k] := List.getElem?_eq_getElem hlt
      obtain ⟨g, off, rfl, _, _, ha⟩ := (HS.out.nil HO.out).get hx
      have a0 := ha.c0
      have a1 := ha.c1
      have a2 := ha.c2
      have a3 := ha.c3
      have a4 := ha.c4
      have a5 := ha.c5
      have a6 := ha.c6
      have lg := ha.lt
      have HX := Lib.hid hx
      generalize l[k] = x at *
      clear ha hx
      go_wp2_with fail
      refine (HP.out x _ (HO.out.blk HB.out (fun h => h)) (HO.out.blk HB2.out (fun h => h))).mono ?_
      rintro e w1 ⟨rfl, ho⟩
      have HO1 := Lib.hid (HO.out.trans (S := Nil) ho (fun _ _ h => h))
      clear a0 a1 a2 a3 a4 a5 a6 lg ho
      by_cases he : ahead side o.price x.price = true
      · have hf := findBy_some (f := fun p => ahead side o.price p.price) HN.out HX.out he
        have hb := he
        rw [hb]
        clear he hb
        go_wp2
        go_ret
        exact ⟨by rw [hf]; rfl, HO1.out⟩
      · have hb : ahead side o.price x.price = false := by simpa using he
        have HN1 : Hid (∀ j s, j < k + 1 → l[j]? = some s → ahead side o.price s.price = false) := Lib.hid (fun j s hj hs => by
          by_cases hjk : j = k
          · subst hjk; rw [HX.out] at hs; injection hs with hs; subst hs; exact hb
          · exact HN.out j s (by omega) hs)
        rw [hb]
        clear he hb HN
        go_wp2
        go_roundg (l.length - (k + 1))
        case measure => omega
        case rel => exact ⟨k + 1, by omega, rfl, by go_num, HN1, HO1⟩
    · have he : k = l.length := by omega
      have hf : findBy (fun p => ahead side o.price p.price) l = none := findBy_none (f := fun p => ahead side o.price p.price) (fun j s hs => HN.out j s (by have := (List.getElem?_eq_some_iff.1 hs).1; omega) hs)
      have hkI : ¬ ((k : Int) < (l.length : Int)) := by omega
      clear he
      go_wp2
      go_ret
      exact ⟨rfl, HO.out⟩
end Ck
end Go.Proofs.Ytcnkbhgdcfckoaa
namespace Go.Proofs.Ytcnkbhgdcfckoaa
open Go.RowKit
namespace Ck
/-- The checker at block C: its book, its two slices, its two pointers. -/
structure BkRep (w : World) (C : Nat) (b : Bk) (v1 v2 p6 p7 : Value) : Prop where
  blk : w.heap[C]? = some (.cells #[.int .i64 b.cap, .int .i64 b.meet, v1, v2, .int .u64 b.high, .int .u64 b.seq, p6, p7] tC (0, 0))
  r1 : w.ownsRow 0 tR 7 v1 b.buys.length (b.buys.flatMap Rs.cells)
  r2 : w.ownsRow 0 tR 7 v2 b.sells.length (b.sells.flatMap Rs.cells)
  ne : ∀ k, v1.ownBlock = some k → v2.ownBlock ≠ some k
theorem BkRep.nil {w w1 : World} {C : Nat} {b : Bk} {v1 v2 p6 p7 : Value} (h : BkRep w C b v1 v2 p6 p7) (ho : Only Nil w w1) : BkRep w1 C b v1 v2 p6 p7 :=
  ⟨ho.blk h.blk (fun h => h), own_only h.r1 ho (fun _ _ h => h), own_only h.r2 ho (fun _ _ h => h), h.ne⟩
set_option maxHeartbeats 400000 in
set_option maxRecDepth 100000 in
theorem count_any (C : Nat) (b : Bk) (v1 v2 p6 p7 : Value) (w : World) (h : BkRep w C b v1 v2 p6 p7) (hc : b.count ≤ 100000) :
    Calls Try.prog 52 #[.pointer (some ⟨C, 0, none⟩)] w fun e w' => e = .returned (.int .i64 (b.count : Int)) ∧ ∃ n, w' = w.drewN n := by
  obtain ⟨A1, c1, rfl, _⟩ := own_slice h.r1
  obtain ⟨A2, c2, rfl, _⟩ := own_slice h.r2
  have l0 := blk_lt h.blk
  have a2 := blk_cell h.blk 2
  have a3 := blk_cell h.blk 3
  simp only [List.getElem?_toArray, List.getElem?_cons_zero, List.getElem?_cons_succ] at a2 a3
  unfold Bk.count at hc
  have hI : (b.buys.length : Int) + (b.sells.length : Int) ≤ 100000 := by omega
  clear h
  go_enter Try.func52, Try.ntmps52
  go_wp2
  go_quiet (fail)
  go_wp2
  go_ret
  exact ⟨by simp [Bk.count], _, rfl⟩
def findV : Option (Int × Nat) → Value
  | none => .tuple #[.int .i64 0, .int .i64 0, .bool false]
  | some (s, i) => .tuple #[.int .i64 s, .int .i64 (i : Int), .bool true]
set_option maxHeartbeats 1600000 in
set_option maxRecDepth 100000 in
theorem find_any (id : Int) (C : Nat) (b : Bk) (v1 v2 p6 p7 : Value) (w : World) (h : BkRep w C b v1 v2 p6 p7) :
    Calls Try.prog 51 #[.pointer (some ⟨C, 0, none⟩), .int .u64 id] w fun e w' => e = .returned (findV (b.find id)) ∧ Only Nil w w' := by
  obtain ⟨A1, c1, rfl, _⟩ := own_slice h.r1
  obtain ⟨A2, c2, rfl, _⟩ := own_slice h.r2
  have HB := Lib.hid (blk_new w (.cells #[.int .u64 id] tU64))
  have H1 := Lib.hid (h.nil ((Only.refl Nil w).alloc (.cells #[.int .u64 id] tU64)))
  have HO := Lib.hid ((Only.refl Nil w).alloc (.cells #[.int .u64 id] tU64))
  have l0 := blk_lt h.blk
  have a2 := blk_cell h.blk 2
  have a3 := blk_cell h.blk 3
  simp only [List.getElem?_toArray, List.getElem?_cons_zero, List.getElem?_cons_succ] at a2 a3
  have HI := Lib.hid (fun v l W (hW : W.heap[w.heap.size]? = some (.cells #[.int .u64 id] tU64 (0, 0))) (hs : Shows W v l) => index_id id w.heap.size v l W hW hs)
  have hi0 : ∀ W, (Instr.index 75 (.agg #[.slice A1 b.buys.length c1, .slice A2 b.sells.length c2]) (.int .i64 0)).run Try.prog W = .ok (.slice A1 b.buys.length c1) W := fun W => by kernel_rfl
  have hi1 : ∀ W, (Instr.index 75 (.agg #[.slice A1 b.buys.length c1, .slice A2 b.sells.length c2]) (.int .i64 1)).run Try.prog W = .ok (.slice A2 b.sells.length c2) W := fun W => by kernel_rfl
  clear h
  go_enter Try.func51, Try.ntmps51
  go_wp2_with fail
  refine wp_loop_rounds 3 ?_
  rw [rounds_succ]
  go_wp2_with fail
  refine (HI.out _ _ _ HB.out (Shows.own H1.out.r1)).mono ?_
  rintro e w1 ⟨rfl, ho1⟩
  have HO1 := Lib.hid (HO.out.trans (S := Nil) ho1 (fun _ _ h => h))
  have HB1 := Lib.hid (ho1.blk HB.out (fun h => h))
  have H2 := Lib.hid (H1.out.nil ho1)
  clear ho1 HB HO H1
  cases hf1 : findAt id b.buys with
  | some i =>
    have HF : Hid (b.find id = some (1, i)) := Lib.hid (by unfold Bk.find; rw [hf1])
    have hi : (0 : Int) ≤ (i : Int) := by omega
    clear hf1
    unfold idx
    simp only
    go_wp2
    go_ret3
    rw [HF.out]
    exact ⟨rfl, HO1.out⟩
  | none =>
    unfold idx
    simp only
    go_wp2_with fail
    rw [rounds_succ]
    go_wp2_with fail
    refine (HI.out _ _ _ HB1.out (Shows.own H2.out.r2)).mono ?_
    rintro e w2 ⟨rfl, ho2⟩
    have HO2 := Lib.hid (HO1.out.trans (S := Nil) ho2 (fun _ _ h => h))
    clear ho2 HB1 HO1 H2
    cases hf2 : findAt id b.sells with
    | some i =>
      have HF : Hid (b.find id = some (2, i)) := Lib.hid (by unfold Bk.find; rw [hf1, hf2])
      have hi : (0 : Int) ≤ (i : Int) := by omega
      clear hf1 hf2
      unfold idx
      simp only
      go_wp2
      go_ret3
      rw [HF.out]
      exact ⟨rfl, HO2.out⟩
    | none =>
      have HF : Hid (b.find id = none) := Lib.hid (by unfold Bk.find; rw [hf1, hf2])
      clear hf1 hf2
      unfold idx
      simp only
      go_wp2
      rw [rounds_succ]
      go_wp2
      go_ret3
      rw [HF.out]
      exact ⟨rfl, HO2.out⟩
end Ck
end Go.Proofs.Ytcnkbhgdcfckoaa
namespace Go.Proofs.Ytcnkbhgdcfckoaa
open Go.RowKit
namespace Ck
/-- The order that comes, at block G. -/
def CgAt (w : World) (G : Nat) (c : Cg) : Prop := w.heap[G]? = some (.cells #[.int .u64 c.o.id, .int .u32 c.o.mem, .int .i64 c.o.typ, .int .i64 c.o.price, .int .u64 c.o.vis, .int .u64 c.o.hid, .int .u64 c.o.peak, .int .i64 c.side, .int .i64 c.kind, .int .u64 c.left, .bool c.traded, .int .u64 c.empty, .bool c.met] tCg (0, 0))
theorem CgAt.nil {w w1 : World} {G : Nat} {c : Cg} (h : CgAt w G c) (ho : Only Nil w w1) : CgAt w1 G c := ho.blk h (fun h => h)
set_option maxHeartbeats 800000 in
set_option maxRecDepth 100000 in
theorem own_any (C G : Nat) (b : Bk) (c : Cg) (o : Rs) (v1 v2 p6 p7 : Value) (w : World) (h : BkRep w C b v1 v2 p6 p7) (hg : CgAt w G c) :
    Calls Try.prog 71 #[.pointer (some ⟨C, 0, none⟩), .pointer (some ⟨G, 0, none⟩), o.v] w fun e w' => e = .returned (.bool (own b c o)) ∧ Only Nil w w' := by
  have l0 := blk_lt h.blk
  have a1 := blk_cell h.blk 1
  simp only [List.getElem?_toArray, List.getElem?_cons_zero, List.getElem?_cons_succ] at a1
  unfold CgAt at hg
  have l1 := blk_lt hg
  have g1 := blk_cell hg 1
  simp only [List.getElem?_toArray, List.getElem?_cons_zero, List.getElem?_cons_succ] at g1
  clear h hg
  unfold Rs.v
  have HO : Hid (own b c o = (o.mem == c.o.mem && o.mem != 0 && b.meet != 0)) := Lib.hid rfl
  cases e1 : (o.mem == c.o.mem) with
  | false =>
    rw [e1] at HO
    go_enter Try.func71, Try.ntmps71
    go_wp2
    go_quiet (fail)
    go_wp2
    go_ret
    exact ⟨by rw [HO.out]; rfl, ((Only.refl _ _).alloc _).drewN _⟩
  | true =>
    cases e2 : (o.mem != 0) with
    | false =>
      rw [e1, e2] at HO
      go_enter Try.func71, Try.ntmps71
      go_wp2
      go_quiet (fail)
      go_wp2
      go_ret
      exact ⟨by rw [HO.out]; rfl, ((Only.refl _ _).alloc _).drewN _⟩
    | true =>
      rw [e1, e2] at HO
      go_enter Try.func71, Try.ntmps71
      go_wp2
      go_quiet (fail)
      go_wp2
      go_ret
      exact ⟨by rw [HO.out]; rfl, ((Only.refl _ _).alloc _).drewN _⟩
abbrev tEvt : Nat := 37
theorem infoEvt : (Try.prog.info? tEvt).map (·.size) = some 13 := by kernel_rfl
def Ev.row (e : Ev) : Array Value := #[.int .u64 e.seq, .int .i64 e.kind, .int .u64 e.id, .int .u64 e.other, .int .u64 e.target, .int .u32 e.mem, .int .i64 e.side, .int .i64 e.typ, .int .i64 e.price, .int .u64 e.qty, .int .u64 e.peak, .int .i64 e.reason, .int .i64 e.code]
set_option maxHeartbeats 800000 in
set_option maxRecDepth 100000 in
theorem cancel_any (id qty why : Int) (w : World) :
    Calls Try.prog 68 #[.int .u64 id, .int .u64 qty, .int .i64 why] w fun e w' => e = .returned (.tuple #[(evCancel id qty why).v, .bool true]) ∧ Only Nil w w' := by
  have HB := Lib.hid (blk_new w (.cells (evCancel id qty why).row tEvt))
  go_enter Try.func68, Try.ntmps68
  go_wp2
  refine bodyPost_ret (v := .tuple #[.agg (evCancel id qty why).row, .bool true]) (results_agg_tmp rfl _ _ _ _ _ _ _ rfl _ rfl HB.out Try.underlying37 rfl infoEvt) rfl ⟨rfl, (Only.refl _ _).alloc _⟩
def Rs.row (r : Rs) : Array Value := #[.int .u64 r.id, .int .u32 r.mem, .int .i64 r.typ, .int .i64 r.price, .int .u64 r.vis, .int .u64 r.hid, .int .u64 r.peak]
theorem infoRs : (Try.prog.info? tR).map (·.size) = some 7 := by kernel_rfl
theorem one_row (r : Rs) : r.row.all (·.oneCell') = true := by cases r; kernel_rfl
def firstV : Option Rs → Value
  | none => .tuple #[.agg zR.row, .bool false]
  | some r => .tuple #[.agg r.row, .bool true]
theorem row_at {w : World} {g n c base : Nat} {l : List Rs} (h : w.ownsRow base tR 7 (.slice (some ⟨g, 0, none⟩) n c) n (l.flatMap Rs.cells)) {i : Nat} {r : Rs} (hx : l[i]? = some r) (k : Nat) (hk : k < 7) : w.cell? ⟨g, i * 7 + k, none⟩ = r.cells[k]? :=  by
  have h1 := lay_get (enc := Rs.cells) (m := 7) (fun a _ => a.len) hx hk
  have h2 : k < r.cells.length := by rw [r.len]; exact hk
  rw [List.getElem?_eq_getElem h2] at h1 ⊢
  exact own_cell h h1
end Ck
end Go.Proofs.Ytcnkbhgdcfckoaa
