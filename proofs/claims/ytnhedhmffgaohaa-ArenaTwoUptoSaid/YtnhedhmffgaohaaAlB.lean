/- ArenaAll: the program's arena and the document's, side by side in memory; a step of the one leaves the other. -/
import Derived.Test.YtnhedhmffgaohaaQtY
import Derived.Test.YtnhedhmffgaohaaRfD
import Derived.Test.YtnhedhmffgaohaaRfH
import Derived.Test.YtnhedhmffgaohaaRfL
namespace Go.Proofs.Ytnhedhmffgaohaa
open Go.RowKit
namespace Al
open Rfw (RfRep RfIs RStep Rp RfD tR tP tS)
open ArT (ArRep ArD tA tN tQ tI tH tT)

/-- The types of the blocks of both. -/
def Kind (t : TypeId) : Prop := t = tA ∨ t = tN ∨ t = tI ∨ t = tQ ∨ t = tR ∨ t = tP ∨ t = tS
def Own (B : Nat → Prop) (w : World) (b : Nat) : Prop := B b ∧ ∃ t, Ty w b t ∧ Kind t
/-- From a world in which the program's arena is s, to one in which it is s'. -/
def PStep (w : World) (A : Nat) (s : Ar) (vn vf : Value) (s' : Ar) (w' : World) : Prop := ∃ vn' vf', ArRep w' A s' vn' vf' ∧ (∀ k, ArD A s' vn' vf' k → ArD A s vn vf k ∨ w.heap.size ≤ k) ∧ Only (ArD A s vn vf) w w'
def Both (B : Nat → Prop) (w : World) (A D : Nat) (s : Ar) (r : Rf) : Prop := ∃ vn vf, ∃ p : Rp, ArRep w A s vn vf ∧ RfIs w D r p ∧ (∀ k, ArD A s vn vf k → B k ∧ ¬ p.D D k) ∧ (∀ k, p.D D k → B k) ∧ ∀ k, w.heap.size ≤ k → B k

section
variable {B : Nat → Prop} {w w' : World} {A D : Nat} {s s' : Ar} {r r' : Rf} {vn vf : Value} {p : Rp}
theorem ar_kind (h : ArRep w A s vn vf) {k : Nat} (hk : ArD A s vn vf k) : ∃ t, Ty w k t ∧ Kind t := by
  rcases hk with rfl | hk | hk | ⟨q, hq, rfl⟩
  · exact ⟨_, blk_ty h.a, .inl rfl⟩
  · exact ⟨_, own_ty h.n hk, .inr (.inl rfl)⟩
  · exact ⟨_, own_ty h.f hk, .inr (.inr (.inl rfl))⟩
  · exact ⟨_, blk_ty (h.q q hq), .inr (.inr (.inr (.inl rfl)))⟩
theorem rf_kind (h : RfIs w D r p) {k : Nat} (hk : p.D D k) : ∃ t, Ty w k t ∧ Kind t := by
  rcases hk with rfl | hk | hk | hk | ⟨v, hv, hk⟩
  · exact ⟨_, blk_ty h.d, .inr (.inr (.inr (.inr (.inl rfl))))⟩
  · exact ⟨_, own_ty h.p hk, .inr (.inr (.inr (.inr (.inr (.inl rfl)))))⟩
  · exact ⟨_, own_ty h.f hk, .inr (.inr (.inl rfl))⟩
  · exact ⟨_, own_ty h.q hk, .inr (.inr (.inr (.inr (.inr (.inr rfl)))))⟩
  · obtain ⟨_, _, _, _, h1⟩ := RfRep.rowAt h hv
    exact ⟨_, own_ty h1 hk, .inr (.inr (.inl rfl))⟩
theorem Both.nil (h : Both B w A D s r) (ho : Only Nil w w') : Both B w' A D s r := by
  obtain ⟨vn, vf, p, h1, h2, h3, h4, h5⟩ := h
  exact ⟨vn, vf, p, h1.only ho (fun _ _ h => h), RfRep.nil h2 ho, h3, h4, fun k hk => h5 k (Nat.le_trans ho.size hk)⟩
theorem Both.up (h : Both B w A D s r) : ∀ k, w.heap.size ≤ k → B k := by
  obtain ⟨vn, vf, p, h1, h2, h3, h4, h5⟩ := h
  exact h5
/-- What turns lies in blocks of other types. -/
theorem Both.apart {S : Nat → Prop} (h : Both B w A D s r) (ho : Only S w w') (hs : ∀ b, S b → ∃ t, Ty w b t ∧ ¬ Kind t) : Both B w' A D s r := by
  obtain ⟨vn, vf, p, h1, h2, h3, h4, h5⟩ := h
  refine ⟨vn, vf, p, h1.apart ho fun b hb => ?_, ?_, h3, h4, fun k hk => h5 k (Nat.le_trans ho.size hk)⟩
  · obtain ⟨t, ht, hk⟩ := hs b hb
    exact ⟨t, ht, fun e => hk (.inl e), fun e => hk (.inr (.inl e)), fun e => hk (.inr (.inr (.inl e))), fun e => hk (.inr (.inr (.inr (.inl e))))⟩
  · have hd : ∀ {b : Nat}, S b → ∃ t, Ty w b t ∧ ¬ Kind t := fun hb => hs _ hb
    have ne : ∀ t0, Kind t0 → ∀ b, S b → ∃ t, Ty w b t ∧ t ≠ t0 := fun t0 h0 b hb => by
      obtain ⟨t, ht, hk⟩ := hd hb
      exact ⟨t, ht, fun e => hk (e ▸ h0)⟩
    have kR : Kind tR := .inr (.inr (.inr (.inr (.inl rfl))))
    have kP : Kind tP := .inr (.inr (.inr (.inr (.inr (.inl rfl)))))
    have kS : Kind tS := .inr (.inr (.inr (.inr (.inr (.inr rfl)))))
    have kI : Kind tI := .inr (.inr (.inl rfl))
    exact ⟨blk_apart h2.d ho (ne _ kR), own_apart h2.p ho (ne _ kP), own_apart h2.f ho (ne _ kI), own_apart h2.q ho (ne _ kS),
      fun j l hl => by obtain ⟨v, e1, e2⟩ := h2.row j l hl; exact ⟨v, e1, own_apart e2 ho (ne _ kI)⟩, h2.ap, h2.apd⟩
/-- A call of the program's. -/
theorem Both.prog {f : Nat} {args : Array Value} {e0 : Ending} (h : Both B w A D s r) (hc : ∀ vn vf, ArRep w A s vn vf → Calls Try.prog f args w fun e w' => e = e0 ∧ PStep w A s vn vf s' w') :
    Calls Try.prog f args w fun e w' => e = e0 ∧ Both B w' A D s' r ∧ Only (Own B w) w w' := by
  obtain ⟨vn, vf, p, h1, h2, h3, h4, h5⟩ := h
  refine (hc vn vf h1).mono ?_
  rintro e w' ⟨rfl, vn', vf', k1, k2, k3⟩
  refine ⟨rfl, ⟨vn', vf', p, k1, RfRep.only h2 k3 (fun k hk hd => (h3 k hd).2 hk), fun k hk => ?_, h4, fun k hk => h5 k (Nat.le_trans k3.size hk)⟩, k3.mono fun b _ hb => ⟨(h3 b hb).1, ar_kind h1 hb⟩⟩
  rcases k2 k hk with e | e
  · exact h3 k e
  · refine ⟨h5 k e, fun hd => ?_⟩
    · have := RfRep.lt h2 hd; omega
/-- A call that reads of the program's alone, or of nothing. -/
theorem Both.progN {f : Nat} {args : Array Value} {e0 : Ending} (h : Both B w A D s r) (hc : ∀ vn vf, ArRep w A s vn vf → Calls Try.prog f args w fun e w' => e = e0 ∧ Only Nil w w') :
    Calls Try.prog f args w fun e w' => e = e0 ∧ Both B w' A D s r ∧ Only (Own B w) w w' := by
  obtain ⟨vn, vf, p, h1, h2, h3, h4, h5⟩ := h
  refine (hc vn vf h1).mono ?_
  rintro e w' ⟨rfl, ho⟩
  exact ⟨rfl, Both.nil ⟨vn, vf, p, h1, h2, h3, h4, h5⟩ ho, ho.mono fun _ _ h => h.elim⟩
/-- A call of the document's. -/
theorem Both.ref {f : Nat} {args : Array Value} {e0 : Ending} (h : Both B w A D s r) (hc : ∀ p, RfIs w D r p → Calls Try.prog f args w fun e w' => e = e0 ∧ RStep w D p r' w') :
    Calls Try.prog f args w fun e w' => e = e0 ∧ Both B w' A D s r' ∧ Only (Own B w) w w' := by
  obtain ⟨vn, vf, p, h1, h2, h3, h4, h5⟩ := h
  refine (hc p h2).mono ?_
  rintro e w' ⟨rfl, p', k1, k2, k3⟩
  refine ⟨rfl, ⟨vn, vf, p', h1.only k3 (fun k hk hd => (h3 k hk).2 hd), k1, fun k hk => ⟨(h3 k hk).1, fun hd => ?_⟩, fun k hk => ?_, fun k hk => h5 k (Nat.le_trans k3.size hk)⟩, k3.mono fun b _ hb => ⟨h4 b hb, rf_kind h2 hb⟩⟩
  · rcases k2 k hd with e | e
    · exact (h3 k hk).2 e
    · have := h1.lt hk; omega
  · rcases k2 k hk with e | e
    · exact h4 k e
    · exact h5 k e
theorem Both.refN {f : Nat} {args : Array Value} {e0 : Ending} (h : Both B w A D s r) (hc : ∀ p, RfIs w D r p → Calls Try.prog f args w fun e w' => e = e0 ∧ Only Nil w w') :
    Calls Try.prog f args w fun e w' => e = e0 ∧ Both B w' A D s r ∧ Only (Own B w) w w' := by
  obtain ⟨vn, vf, p, h1, h2, h3, h4, h5⟩ := h
  refine (hc p h2).mono ?_
  rintro e w' ⟨rfl, ho⟩
  exact ⟨rfl, Both.nil ⟨vn, vf, p, h1, h2, h3, h4, h5⟩ ho, ho.mono fun _ _ h => h.elim⟩
theorem own_ne {t0 : TypeId} (h0 : ¬ Kind t0) : ∀ b, Own B w b → ∃ t, Ty w b t ∧ t ≠ t0 := fun b hb => by
  obtain ⟨_, t, ht, hk⟩ := hb
  exact ⟨t, ht, fun e => h0 (e ▸ hk)⟩
theorem kH : ¬ Kind tH := by unfold Kind; decide
end

/-! ### What is known of the document's numbers -/
theorem plAt_life {s : Ar} {Ls : List (List Nat)} (h : Pgp s Ls) (k : Nat) : (plAt s k).life < 4294967296 := by
  unfold plAt
  cases hc : coreOf s.nodes k with
  | none => show (0 : Nat) < _; omega
  | some c =>
    obtain ⟨d, h1, h2⟩ := of_coreOf hc
    subst h2
    exact h.wf.life d (List.mem_of_getElem? h1)
theorem rwf {s : Ar} {Ls : List (List Nat)} (h : Pgp s Ls) (hn : Ls.length ≤ 4194304) : (refOf s Ls).wf := by
  have h1 := h.wf.room
  have h2 := h.wf.len
  have h3 := h.wf.flen
  refine ⟨by rw [ref_len]; exact h1, by rw [ref_len]; show s.free.length ≤ _; omega, fun i hi => ?_, by rw [ref_len]; exact h2, hn, fun l hl => ?_, fun x hx => ?_⟩
  · rw [ref_len]; have := h.wf.free i hi; omega
  · obtain ⟨j, hj⟩ := List.getElem?_of_mem hl
    have hj' : Ls[j]? = some l := hj
    obtain ⟨q, L, hq, hL, hok⟩ := h.q (List.getElem?_eq_some_iff.1 hj').1
    rw [hj'] at hL
    injection hL with hL
    subst hL
    refine ⟨h.lo hq hj', fun i hi => ?_⟩
    rw [ref_len]
    obtain ⟨d, hd', _⟩ := lk_mem hok.lk hi
    have := (List.getElem?_eq_some_iff.1 hd').1
    omega
  · obtain ⟨k, hk, rfl⟩ := List.getElem_of_mem hx
    have hk' : k < s.room := by rw [ref_len] at hk; exact hk
    have h4 := ref_get s Ls hk'
    rw [List.getElem?_eq_getElem hk] at h4
    injection h4 with h4
    rw [h4]
    exact plAt_life h k
/-- The dropped and those of a queue are unlike. -/
theorem free_queue {s : Ar} {Ls : List (List Nat)} (h : Pgp s Ls) {j : Nat} {q : Qu} {L : List Nat} (hq : s.qs[j]? = some q) (hL : Ls[j]? = some L) : s.free.length + L.length ≤ s.nodes.length := by
  have hok := h.ok j q L hq hL
  have hnd : (s.free ++ L).Nodup := by
    rw [List.nodup_append]
    refine ⟨h.wf.nd, hok.nd, fun a ha b hb e => ?_⟩
    subst e
    obtain ⟨d, h1, h2, _⟩ := lk_mem hok.lk hb
    exact h.not_free h1 h2 ha
  have := nodup_le (n := s.nodes.length) hnd fun k hk => by
    rcases List.mem_append.1 hk with h1 | h1
    · exact h.wf.free k h1
    · obtain ⟨d, h2, _⟩ := lk_mem hok.lk h1
      exact (List.getElem?_eq_some_iff.1 h2).1
  rw [List.length_append] at this
  exact this
end Al
end Go.Proofs.Ytnhedhmffgaohaa
