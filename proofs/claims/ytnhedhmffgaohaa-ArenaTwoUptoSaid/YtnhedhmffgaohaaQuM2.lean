/- Queues as plain lists, continued: what a sweep makes of a queue; what always holds of an arena with its queues. No program in sight. -/
import Derived.Test.YtnhedhmffgaohaaQuM
namespace Go.Proofs.Ytnhedhmffgaohaa

theorem nodup_le {l : List Nat} {n : Nat} (h : l.Nodup) (hb : ∀ i ∈ l, i < n) : l.length ≤ n := by
  induction n generalizing l with
  | zero => cases l with
    | nil => simp
    | cons a l => exact absurd (hb a (by simp)) (by omega)
  | succ n ih =>
    have h1 : (l.erase n).Nodup := h.erase n
    have h2 : ∀ i ∈ l.erase n, i < n := fun i hi => by
      have h3 := hb i (List.mem_of_mem_erase hi)
      have h4 : i ≠ n := fun e => by
        subst e
        exact (List.Nodup.mem_erase_iff h).1 hi |>.1 rfl
      omega
    have h5 := ih h1 h2
    have h6 := List.length_erase (a := n) (l := l)
    split at h6 <;> omega

/-- What is free stands in no queue. -/
def Ar.fr (s : Ar) : Prop := ∀ k ∈ s.free, ∃ d, s.nodes[k]? = some d ∧ d.taken = false ∧ d.inq = none

theorem wf_nodes {m : Nat} {s : Ar} {ns : List Nd} (h : s.wf m) (hl : ns.length = s.nodes.length) (hc : ∀ k x, coreOf ns k = some x → ∃ y, coreOf s.nodes k = some y ∧ x.2.1 = y.2.1 ∧ (x.1 = y.1 ∨ x.1.length = m)) {qs : List Qu} : Ar.wf m { s with nodes := ns, qs := qs } := by
  refine ⟨h.room, by rw [hl]; exact h.len, fun i hi => by rw [hl]; exact h.free i hi, by rw [hl]; exact h.flen, h.nd, fun d hd => ?_, fun d hd => ?_⟩
  · obtain ⟨k, hk, rfl⟩ := List.getElem_of_mem hd
    obtain ⟨y, h1, h2, h3⟩ := hc k _ (coreOf_some (List.getElem?_eq_getElem hk))
    obtain ⟨e, h4, h5⟩ := of_coreOf h1
    rcases h3 with h3 | h3
    · have := h.cells e (List.mem_of_getElem? h4)
      have h6 : y.1 = e.v := by rw [← h5]; rfl
      show (core ns[k]).1.length = m
      rw [h3, h6]; exact this
    · exact h3
  · obtain ⟨k, hk, rfl⟩ := List.getElem_of_mem hd
    obtain ⟨y, h1, h2, h3⟩ := hc k _ (coreOf_some (List.getElem?_eq_getElem hk))
    obtain ⟨e, h4, h5⟩ := of_coreOf h1
    have := h.life e (List.mem_of_getElem? h4)
    have h6 : y.2.1 = e.life := by rw [← h5]; rfl
    show (core ns[k]).2.1 < _
    rw [h2, h6]; exact this
theorem wf_drop {m : Nat} {s : Ar} {ns : List Nd} {i : Nat} (h : Ar.wf m { s with nodes := ns }) (hi : i < ns.length) (hf : i ∉ s.free) {qs : List Qu} : Ar.wf m { s with nodes := ns, free := s.free ++ [i], qs := qs } := by
  have hnd : (s.free ++ [i]).Nodup := by
    rw [List.nodup_append]
    exact ⟨h.nd, by simp, fun a ha b hb e => hf (by simp at hb; subst hb; exact e ▸ ha)⟩
  have hb : ∀ k ∈ s.free ++ [i], k < ns.length := fun k hk => by
    rcases List.mem_append.1 hk with h1 | h1
    · exact h.free k h1
    · simp at h1; subst h1; exact hi
  exact ⟨h.room, h.len, hb, nodup_le hnd hb, hnd, h.cells, h.life⟩

theorem wf_out {m : Nat} {s : Ar} {i : Nat} {d : Nd} (h : s.wf m) (hd' : s.nodes[i]? = some d) {qs : List Qu} : Ar.wf m { s with nodes := outN s.nodes i d, qs := qs } := by
  refine wf_nodes h (by simp) fun k x hx => ?_
  rw [outN_core s.nodes i d (List.getElem?_eq_some_iff.1 hd').1] at hx
  split at hx
  · rename_i hk
    subst hk
    injection hx with hx
    subst hx
    exact ⟨_, coreOf_some hd', rfl, .inl rfl⟩
  · exact ⟨x, hx, rfl, .inl rfl⟩
theorem wf_push {m : Nat} {s : Ar} {i : Nat} {q : Qu} {d : Nd} (h : s.wf m) (hd' : s.nodes[i]? = some d) {qs : List Qu} : Ar.wf m { s with nodes := pushN s.nodes i q d, qs := qs } := by
  refine wf_nodes h (by simp) fun k x hx => ?_
  rw [pushN_core s.nodes i q d (List.getElem?_eq_some_iff.1 hd').1] at hx
  split at hx
  · rename_i hk
    subst hk
    injection hx with hx
    subst hx
    exact ⟨_, coreOf_some hd', rfl, .inl rfl⟩
  · exact ⟨x, hx, rfl, .inl rfl⟩
theorem markN_core (ns : List Nd) (i : Nat) (d : Nd) (hi : i < ns.length) (k : Nat) : coreOf (markN ns i d) k = if k = i then some (d.v, d.life, d.taken, true, d.inq) else coreOf ns k := by
  unfold coreOf markN
  by_cases hk : k = i
  · subst hk; rw [List.getElem?_set_self hi, if_pos rfl]; rfl
  · rw [List.getElem?_set_ne (fun e => hk e.symm), if_neg hk]
theorem wf_mark {m : Nat} {s : Ar} {i : Nat} {d : Nd} (h : s.wf m) (hd' : s.nodes[i]? = some d) {qs : List Qu} : Ar.wf m { s with nodes := markN s.nodes i d, qs := qs } := by
  refine wf_nodes h (by simp) fun k x hx => ?_
  rw [markN_core s.nodes i d (List.getElem?_eq_some_iff.1 hd').1] at hx
  split at hx
  · rename_i hk
    subst hk
    injection hx with hx
    subst hx
    exact ⟨_, coreOf_some hd', rfl, .inl rfl⟩
  · exact ⟨x, hx, rfl, .inl rfl⟩

/-! ### A sweep -/
/-- The places P of a queue were gone through, from the first one on; M are those behind. -/
structure Swept (m : Nat) (z : List Value) (j : Nat) (s s' : Ar) (q q' : Qu) (P M : List Nat) : Prop where
  room : s'.room = s.room
  hq : s'.qs[j]? = some q'
  qs : s'.qs = s.qs.set j q'
  blk : q'.blk = q.blk
  ok : QOk s'.nodes q' (P.filter (alive s.nodes) ++ M)
  nd : (P ++ M).Nodup
  core : ∀ k, coreOf s'.nodes k = if k ∈ P ∧ alive s.nodes k = false then (coreOf s.nodes k).map (fun x => (z, x.2.1, false, x.2.2.2.1, none)) else coreOf s.nodes k
  free : s'.free = s.free ++ P.filter (fun k => !alive s.nodes k)
  len : s'.nodes.length = s.nodes.length
  far : ∀ q0 L0, q0.blk ≠ q.blk → QOk s.nodes q0 L0 → QOk s'.nodes q0 L0
  wf : s'.wf m
  fr : s'.fr

theorem Swept.start {m : Nat} {z : List Value} {j : Nat} {s : Ar} {q : Qu} {M : List Nat} (hq : s.qs[j]? = some q) (h : QOk s.nodes q M) (hw : s.wf m) (hf : s.fr) : Swept m z j s s q q [] M :=
  ⟨rfl, hq, by obtain ⟨h1, h2⟩ := List.getElem?_eq_some_iff.1 hq; rw [← h2, List.set_getElem_self], rfl, h, h.nd, fun k => by rw [if_neg (fun h => by simp at h)], by simp, rfl, fun _ _ _ h => h, hw, hf⟩
theorem Swept.alive {m : Nat} {z : List Value} {j : Nat} {s s' : Ar} {q q' : Qu} {P M : List Nat} (h : Swept m z j s s' q q' P M) (k : Nat) : alive s'.nodes k = alive s.nodes k := by
  rw [alive_core, alive_core, h.core]
  by_cases hc : k ∈ P ∧ Proofs.Ytnhedhmffgaohaa.alive s.nodes k = false
  · rw [if_pos hc]
    cases coreOf s.nodes k <;> rfl
  · rw [if_neg hc]
theorem Swept.v {m : Nat} {z : List Value} {j : Nat} {s s' : Ar} {q q' : Qu} {P M : List Nat} (h : Swept m z j s s' q q' P M) {d : Nd} (hd' : d ∈ s'.nodes) : d.v = z ∨ ∃ e ∈ s.nodes, d.v = e.v := by
  obtain ⟨k, hk, rfl⟩ := List.getElem_of_mem hd'
  have h1 := h.core k
  rw [coreOf_some (List.getElem?_eq_getElem hk)] at h1
  split at h1
  · obtain ⟨x, h2, h3⟩ := Option.map_eq_some_iff.1 h1.symm
    exact .inl (congrArg (fun x => x.1) h3).symm
  · obtain ⟨e, h2, h3⟩ := of_coreOf h1.symm
    exact .inr ⟨e, List.mem_of_getElem? h2, (congrArg (fun x => x.1) h3).symm⟩
theorem Swept.keep {m : Nat} {z : List Value} {j : Nat} {s s' : Ar} {q q' : Qu} {P M : List Nat} {i : Nat} (h : Swept m z j s s' q q' P (i :: M)) (ha : Proofs.Ytnhedhmffgaohaa.alive s.nodes i = true) : Swept m z j s s' q q' (P ++ [i]) M := by
  refine ⟨h.room, h.hq, h.qs, h.blk, ?_, ?_, fun k => ?_, ?_, h.len, h.far, h.wf, h.fr⟩
  · have := h.ok
    rw [List.filter_append]
    simpa [List.filter_cons, ha] using this
  · simpa using h.nd
  · rw [h.core]
    by_cases hk : k = i
    · subst hk; rw [if_neg (by simp [ha]), if_neg (by simp [ha])]
    · simp [hk]
  · rw [h.free, List.filter_append]; simp [ha]
/-- The next place is dead: it is taken out and dropped. -/
theorem Swept.drop {m : Nat} {z : List Value} {j : Nat} {s s' : Ar} {q q' : Qu} {P M : List Nat} {i : Nat} {d : Nd} (h : Swept m z j s s' q q' P (i :: M)) (hd' : s'.nodes[i]? = some d) (hdd : d.dead = true) (hz : z.length = m) :
    Swept m z j s { s' with nodes := (outN s'.nodes i d).set i (({ d with inq := none } : Nd).drop z), qs := s'.qs.set j (outQ q' d), free := s'.free ++ [i] } q (outQ q' d) (P ++ [i]) M := by
  have hi : i < s'.nodes.length := (List.getElem?_eq_some_iff.1 hd').1
  have ha' : Proofs.Ytnhedhmffgaohaa.alive s'.nodes i = false := by rw [alive_at hd', hdd]; rfl
  have ha : Proofs.Ytnhedhmffgaohaa.alive s.nodes i = false := by rw [← h.alive]; exact ha'
  have hiP : i ∉ P := fun hm => by
    have := h.nd
    rw [List.nodup_append] at this
    exact this.2.2 i hm i (by simp) rfl
  have hci : coreOf s.nodes i = some (Proofs.Ytnhedhmffgaohaa.core d) := by
    have := h.core i
    rw [if_neg (fun h => hiP h.1), coreOf_some hd'] at this
    exact this.symm
  obtain ⟨ht, hin, _, _⟩ := lk_at h.ok.lk hd'
  have hif : i ∉ s'.free := fun hm => by
    obtain ⟨e, h1, h2, _⟩ := h.fr i hm
    rw [hd'] at h1
    injection h1 with h1
    subst h1
    rw [ht] at h2
    cases h2
  have hcore : ∀ k, coreOf ((outN s'.nodes i d).set i (({ d with inq := none } : Nd).drop z)) k = if k = i then some (z, d.life, false, d.dead, none) else coreOf s'.nodes k := fun k => by
    by_cases hk : k = i
    · subst hk
      rw [if_pos rfl]
      unfold coreOf
      rw [List.getElem?_set_self (by simpa using hi)]
      rfl
    · rw [if_neg hk]
      have := outN_core s'.nodes i d hi k
      rw [if_neg hk] at this
      unfold coreOf at this ⊢
      rw [List.getElem?_set_ne (fun e => hk e.symm)]
      exact this
  have hat : (outN s'.nodes i d)[i]? = some { d with inq := none } := by rw [outN_get s'.nodes i d hi, if_pos rfl]
  have hok := set_far (d' := ({ d with inq := none } : Nd).drop z) (out_ok h.ok hd') hat (by simp) (by simp [Nd.drop])
  refine ⟨h.room, ?_, ?_, h.blk, ?_, ?_, fun k => ?_, ?_, ?_, fun q0 L0 h1 h2 => ?_, ?_, ?_⟩
  · exact List.getElem?_set_self (List.getElem?_eq_some_iff.1 h.hq).1
  · show s'.qs.set j _ = _
    rw [h.qs, List.set_set]
  · rw [List.filter_append]
    simpa [List.filter_cons, ha] using hok
  · simpa using h.nd
  · show coreOf ((outN s'.nodes i d).set i (({ d with inq := none } : Nd).drop z)) k = _
    rw [hcore, h.core]
    by_cases hk : k = i
    · subst hk
      rw [if_pos rfl, if_pos ⟨by simp, ha⟩, hci]
      rfl
    · rw [if_neg hk]
      simp [hk]
  · show s'.free ++ [i] = _
    rw [h.free, List.filter_append]; simp [ha]
  · show ((outN s'.nodes i d).set i _).length = _
    simp [h.len]
  · exact set_far (d' := ({ d with inq := none } : Nd).drop z) (out_far h.ok (h.far q0 L0 h1 h2) (by rw [h.blk]; exact h1) hd') hat (by simp) (by simp [Nd.drop])
  · have hw1 : Ar.wf m { s' with nodes := (outN s'.nodes i d).set i (({ d with inq := none } : Nd).drop z) } := by
      refine wf_nodes (qs := s'.qs) h.wf (by simp) fun k x hx => ?_
      rw [hcore] at hx
      split at hx
      · rename_i hk
        subst hk
        injection hx with hx
        subst hx
        exact ⟨_, coreOf_some hd', rfl, .inr hz⟩
      · exact ⟨x, hx, rfl, .inl rfl⟩
    exact wf_drop hw1 (by simpa using hi) hif
  · intro k hk
    show ∃ e, ((outN s'.nodes i d).set i (({ d with inq := none } : Nd).drop z))[k]? = some e ∧ _
    rcases List.mem_append.1 hk with h1 | h1
    · obtain ⟨e, h2, h3, h4⟩ := h.fr k h1
      have hki : k ≠ i := fun e => hif (e ▸ h1)
      have := hcore k
      rw [if_neg hki, coreOf_some h2] at this
      obtain ⟨e', h5, h6⟩ := of_coreOf this
      exact ⟨e', h5, (congrArg (fun x => x.2.2.1) h6).trans h3, (congrArg (fun x => x.2.2.2.2) h6).trans h4⟩
    · simp at h1
      subst h1
      exact ⟨_, List.getElem?_set_self (by simpa using hi), rfl, rfl⟩

end Go.Proofs.Ytnhedhmffgaohaa
