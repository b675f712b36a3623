/- ArenaAll, the plain part: the document's arena as plain lists, and the program's state seen as such. No program in sight. -/
import Derived.Test.YtnhedhmffgaohaaOrM
namespace Go.Proofs.Ytnhedhmffgaohaa

/-- A place of the document's arena. -/
structure Pl where
  life : Nat
  taken : Bool
  value : Int
  inn : Nat
  dead : Bool
def pl0 : Pl := ⟨0, false, 0, 0, false⟩
def Pl.cells (p : Pl) : List Value := [.int .u32 (p.life : Int), .bool p.taken, .int .i64 p.value, .int .i64 (p.inn : Int), .bool p.dead]
theorem Pl.len (p : Pl) : p.cells.length = 5 := rfl
def Pl.gone (p : Pl) : Pl := ⟨p.life, false, 0, 0, false⟩
/-- The document's arena. -/
structure Rf where
  places : List Pl
  dropped : List Nat
  ever : Nat
  queues : List (List Nat)
def Rf.good (r : Rf) (i l : Nat) : Bool := match r.places[i]? with | some p => p.taken && p.life == l | none => false
def Rf.gives (r : Rf) (i : Nat) (p : Pl) : Rf := { r with places := r.places.set i p.gone, dropped := r.dropped ++ [i] }
def Rf.out (r : Rf) (q i : Nat) (p : Pl) (l : List Nat) : Rf := { r with places := r.places.set i { p with inn := 0, dead := false }, queues := r.queues.set q (l.filter fun k => k != i) }
def rh (pl : List Pl) (k : Nat) : Option Hd := match pl[k]? with | some p => if p.dead = true then none else some ⟨k, p.life⟩ | none => none
def rall (pl : List Pl) (l : List Nat) : List Hd := l.filterMap (rh pl)
def deadAt (pl : List Pl) (k : Nat) : Bool := match pl[k]? with | some p => p.dead | none => false
def sweptPl (P : List Nat) (pl : List Pl) : List Pl := pl.mapIdx fun k p => if k ∈ P ∧ p.dead = true then p.gone else p
def Rf.swept (r : Rf) (q : Nat) (P M : List Nat) : Rf := { r with places := sweptPl P r.places, dropped := r.dropped ++ P.filter (deadAt r.places), queues := r.queues.set q (P.filter (fun k => !deadAt r.places k) ++ M) }

/-- A handle that may be none, as it is answered. -/
def hIx (o : Option Hd) : Int := match o with | some h => (h.ix : Int) | none => 0
def hLf (o : Option Hd) : Int := match o with | some h => (h.life : Int) | none => 0

/-! ### What a thing is -/
def thS (n : Int) : ByteArray := ⟨#[UInt8.ofNat (n % 256).toNat, UInt8.ofNat (n / 256 % 256).toNat]⟩
def tv (n : Int) : List Value := [.int .i64 n, .string (thS n)]
def tz : List Value := [.int .i64 0, .string ⟨#[]⟩]
def valOf (v : List Value) : Int := match v with | .int _ n :: _ => n | _ => 0
def I64 (n : Int) : Prop := -9223372036854775808 ≤ n ∧ n ≤ 9223372036854775807
@[simp] theorem valOf_tv (n : Int) : valOf (tv n) = n := rfl
@[simp] theorem valOf_tz : valOf tz = 0 := rfl

/-! ### The program's state, seen as the document's -/
abbrev Core := List Value × Nat × Bool × Bool × Option Nat
def qnum (B : List Nat) : Option Nat → Nat | none => 0 | some b => B.idxOf b + 1
def plC (B : List Nat) (c : Core) : Pl := ⟨c.2.1, c.2.2.1, valOf c.1, qnum B c.2.2.2.2, c.2.2.2.2.isSome && c.2.2.2.1⟩
def plOf (B : List Nat) (o : Option Core) : Pl := match o with | some c => plC B c | none => pl0
def blks (s : Ar) : List Nat := s.qs.map Qu.blk
def plAt (s : Ar) (k : Nat) : Pl := plOf (blks s) (coreOf s.nodes k)
def refOf (s : Ar) (Ls : List (List Nat)) : Rf := ⟨(List.range s.room).map (plAt s), s.free, s.nodes.length, Ls⟩
theorem ref_get (s : Ar) (Ls : List (List Nat)) {k : Nat} (h : k < s.room) : (refOf s Ls).places[k]? = some (plAt s k) := by simp [refOf, h]
theorem ref_len (s : Ar) (Ls : List (List Nat)) : (refOf s Ls).places.length = s.room := by simp [refOf]
theorem ref_set {s s' : Ar} {Ls Ls' : List (List Nat)} (hr : s'.room = s.room) {k : Nat} {p : Pl} (hk : k < s.room) (hp : plAt s' k = p) (ho : ∀ j, j ≠ k → plAt s' j = plAt s j) : (refOf s' Ls').places = (refOf s Ls).places.set k p := by
  refine List.ext_getElem? fun j => ?_
  by_cases hj : j < s.room
  · rw [ref_get s' Ls' (by omega)]
    by_cases e : j = k
    · subst e
      rw [List.getElem?_set_self (by rw [ref_len]; exact hk), hp]
    · rw [List.getElem?_set_ne (fun h => e h.symm), ref_get s Ls hj, ho j e]
  · rw [List.getElem?_eq_none (by rw [ref_len]; omega), List.getElem?_eq_none (by rw [List.length_set, ref_len]; omega)]
theorem ref_same {s s' : Ar} {Ls Ls' : List (List Nat)} (hr : s'.room = s.room) (ho : ∀ j, plAt s' j = plAt s j) : (refOf s' Ls').places = (refOf s Ls).places := by
  unfold refOf
  rw [hr]
  simp only [List.map_inj_left]
  exact fun j _ => ho j

/-- What always holds of a place. -/
structure Cok (B F : List Nat) (k : Nat) (c : Core) : Prop where
  inq : ∀ b, c.2.2.2.2 = some b → b ∈ B ∧ c.2.2.1 = true
  v : c.2.2.1 = true → ∃ n, I64 n ∧ c.1 = tv n
  z : c.2.2.1 = false → c.1 = tz ∧ k ∈ F
/-- What always holds of an arena and its queues. -/
structure Pgp (s : Ar) (Ls : List (List Nat)) : Prop where
  wf : s.wf 2
  nodup : (blks s).Nodup
  fr : s.fr
  len : Ls.length = s.qs.length
  ok : ∀ (j : Nat) (q : Qu) (L : List Nat), s.qs[j]? = some q → Ls[j]? = some L → QOk s.nodes q L
  cok : ∀ k c, coreOf s.nodes k = some c → Cok (blks s) s.free k c

theorem set_core {ns : List Nd} {i : Nat} {d' : Nd} (hi : i < ns.length) (k : Nat) : coreOf (ns.set i d') k = if k = i then some (core d') else coreOf ns k := by
  unfold coreOf
  by_cases e : k = i
  · subst e; rw [List.getElem?_set_self hi, if_pos rfl]; rfl
  · rw [List.getElem?_set_ne (fun h => e h.symm), if_neg e]
theorem snoc_core (ns : List Nd) (d' : Nd) (k : Nat) : coreOf (ns ++ [d']) k = if k = ns.length then some (core d') else coreOf ns k := by
  unfold coreOf
  by_cases e : k = ns.length
  · subst e; simp
  · rw [if_neg e]
    by_cases h : k < ns.length
    · rw [List.getElem?_append_left h]
    · rw [List.getElem?_eq_none (by simp; omega), List.getElem?_eq_none (by omega)]
theorem coreOf_lt {ns : List Nd} {k : Nat} {c : Core} (h : coreOf ns k = some c) : k < ns.length := by
  obtain ⟨d, h1, _⟩ := of_coreOf h
  exact (List.getElem?_eq_some_iff.1 h1).1
theorem coreOf_none {ns : List Nd} {k : Nat} (h : ns.length ≤ k) : coreOf ns k = none := by unfold coreOf; rw [List.getElem?_eq_none h]; rfl

section
variable {s : Ar} {Ls : List (List Nat)}
theorem Pgp.room (h : Pgp s Ls) {k : Nat} {d : Nd} (hd' : s.nodes[k]? = some d) : k < s.room ∧ k < 65536 := by
  have h1 := (List.getElem?_eq_some_iff.1 hd').1
  have h2 := h.wf.len
  have h3 := h.wf.room
  omega
theorem Pgp.q (h : Pgp s Ls) {j : Nat} (hj : j < Ls.length) : ∃ q L, s.qs[j]? = some q ∧ Ls[j]? = some L ∧ QOk s.nodes q L := by
  have hq : s.qs[j]? = some (s.qs[j]'(by rw [← h.len]; exact hj)) := List.getElem?_eq_getElem _
  have hL : Ls[j]? = some Ls[j] := List.getElem?_eq_getElem hj
  exact ⟨_, _, hq, hL, h.ok j _ _ hq hL⟩
theorem blk_ne_of (h : (blks s).Nodup) {j k : Nat} {q q' : Qu} (hq : s.qs[j]? = some q) (hq' : s.qs[k]? = some q') (hne : k ≠ j) : q'.blk ≠ q.blk := by
  intro e
  have h1 : (blks s)[k]? = (blks s)[j]? := by unfold blks; rw [List.getElem?_map, List.getElem?_map, hq, hq']; simp [e]
  have hk : k < (blks s).length := by unfold blks; rw [List.length_map]; exact (List.getElem?_eq_some_iff.1 hq').1
  exact hne ((List.getElem?_inj hk h).1 h1)
theorem qnum_at (h : (blks s).Nodup) {j : Nat} {q : Qu} (hq : s.qs[j]? = some q) : qnum (blks s) (some q.blk) = j + 1 := by
  have h1 : (blks s)[j]? = some q.blk := by unfold blks; rw [List.getElem?_map, hq]; rfl
  obtain ⟨hj, h2⟩ := List.getElem?_eq_some_iff.1 h1
  show (blks s).idxOf q.blk + 1 = j + 1
  rw [← h2, h.idxOf_getElem]
/-- A place's queue, by number. -/
theorem Pgp.num (h : Pgp s Ls) {k : Nat} {d : Nd} (hd' : s.nodes[k]? = some d) {j : Nat} {q : Qu} (hq : s.qs[j]? = some q) : qnum (blks s) d.inq = j + 1 ↔ d.inq = some q.blk := by
  constructor
  · intro e
    cases hi : d.inq with
    | none => rw [hi] at e; simp [qnum] at e
    | some b =>
      obtain ⟨hb, _⟩ := (h.cok k _ (coreOf_some hd')).inq b hi
      rw [hi] at e
      simp only [qnum] at e
      have e' : (blks s).idxOf b = j := by omega
      have h1 : (blks s)[j]? = some q.blk := by unfold blks; rw [List.getElem?_map, hq]; rfl
      have hlt := List.idxOf_lt_length_of_mem hb
      have h2 : (blks s)[(blks s).idxOf b]? = some b := by rw [List.getElem?_eq_getElem hlt, List.getElem_idxOf]
      rw [e', h1] at h2
      exact h2.symm
  · intro e
    rw [e]
    exact qnum_at h.nodup hq
theorem Pgp.num0 {d : Nd} : qnum (blks s) d.inq = 0 ↔ d.inq = none := by
  cases d.inq <;> simp [qnum]
theorem plAt_at {k : Nat} {d : Nd} (hd' : s.nodes[k]? = some d) : plAt s k = ⟨d.life, d.taken, valOf d.v, qnum (blks s) d.inq, d.inq.isSome && d.dead⟩ := by
  unfold plAt; rw [coreOf_some hd']; rfl
theorem plAt_no {k : Nat} (h : s.nodes.length ≤ k) : plAt s k = pl0 := by unfold plAt; rw [coreOf_none h]; rfl
/-- A handle is good in both or in none. -/
theorem Pgp.good (h : Pgp s Ls) (i l : Nat) : (refOf s Ls).good i l = s.good i l := by
  unfold Rf.good Ar.good
  cases hd' : s.nodes[i]? with
  | none =>
    have h1 : s.nodes.length ≤ i := List.getElem?_eq_none_iff.1 hd'
    by_cases hi : i < s.room
    · rw [ref_get s Ls hi, plAt_no h1]; rfl
    · rw [List.getElem?_eq_none (by rw [ref_len]; omega)]
  | some d => rw [ref_get s Ls (h.room hd').1, plAt_at hd']
theorem Pgp.not_free (h : Pgp s Ls) {i : Nat} {d : Nd} (hd' : s.nodes[i]? = some d) (ht : d.taken = true) : i ∉ s.free := fun hm => by
  obtain ⟨e, h1, h2, _⟩ := h.fr i hm
  rw [hd'] at h1
  injection h1 with h1
  subst h1
  rw [ht] at h2
  cases h2
theorem Pgp.in_taken (h : Pgp s Ls) {i : Nat} {d : Nd} (hd' : s.nodes[i]? = some d) {b : Nat} (hb : d.inq = some b) : d.taken = true := ((h.cok i _ (coreOf_some hd')).inq b hb).2
theorem Pgp.val (h : Pgp s Ls) {i : Nat} {d : Nd} (hd' : s.nodes[i]? = some d) (ht : d.taken = true) : ∃ n, I64 n ∧ d.v = tv n := (h.cok i _ (coreOf_some hd')).v ht

theorem ok_set (h : Pgp s Ls) {j : Nat} {q q1 : Qu} {L1 : List Nat} {ns : List Nd} (hq : s.qs[j]? = some q) (h1 : QOk ns q1 L1) (hf : ∀ q0 L0, q0.blk ≠ q.blk → QOk s.nodes q0 L0 → QOk ns q0 L0) :
    ∀ (k : Nat) (q' : Qu) (L' : List Nat), (s.qs.set j q1)[k]? = some q' → (Ls.set j L1)[k]? = some L' → QOk ns q' L' := by
  intro k q' L' hq' hL'
  by_cases e : k = j
  · subst e
    have hk : k < s.qs.length := (List.getElem?_eq_some_iff.1 hq).1
    rw [List.getElem?_set_self hk] at hq'
    rw [List.getElem?_set_self (by rw [h.len]; exact hk)] at hL'
    injection hq' with hq'
    injection hL' with hL'
    subst hq'
    subst hL'
    exact h1
  · rw [List.getElem?_set_ne (fun h => e h.symm)] at hq' hL'
    exact hf q' L' (blk_ne_of h.nodup hq hq' e) (h.ok k q' L' hq' hL')
theorem blks_set {j : Nat} {q q1 : Qu} (hq : s.qs[j]? = some q) (hb : q1.blk = q.blk) {ns : List Nd} {fr : List Nat} : blks { s with nodes := ns, free := fr, qs := s.qs.set j q1 } = blks s := by
  unfold blks
  show (s.qs.set j q1).map Qu.blk = _
  rw [List.map_set, hb]
  obtain ⟨hj, hq⟩ := List.getElem?_eq_some_iff.1 hq
  subst hq
  have : s.qs[j].blk = (s.qs.map Qu.blk)[j]'(by simpa using hj) := by simp
  rw [this, List.set_getElem_self]
end
end Go.Proofs.Ytnhedhmffgaohaa
