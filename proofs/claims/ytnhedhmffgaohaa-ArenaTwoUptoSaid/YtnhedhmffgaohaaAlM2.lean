/- ArenaAll, the plain part: what each step makes of the program's state, and of the document's. No program in sight. -/
import Derived.Test.YtnhedhmffgaohaaAlM
namespace Go.Proofs.Ytnhedhmffgaohaa

theorem rf_ext {a b : Rf} (h1 : a.places = b.places) (h2 : a.dropped = b.dropped) (h3 : a.ever = b.ever) (h4 : a.queues = b.queues) : a = b := by
  cases a; cases b; simp_all
theorem Cok.mono {B F B' F' : List Nat} {k : Nat} {c : Core} (h : Cok B F k c) (hB : ∀ b ∈ B, b ∈ B') (hF : c.2.2.1 = false → k ∈ F → k ∈ F') : Cok B' F' k c :=
  ⟨fun b hb => ⟨hB b (h.inq b hb).1, (h.inq b hb).2⟩, h.v, fun hz => ⟨(h.z hz).1, hF hz (h.z hz).2⟩⟩

section
variable {s : Ar} {Ls : List (List Nat)}
/-! ### Take -/
theorem Pgp.take1 (h : Pgp s Ls) {fr : List Nat} {k : Nat} {d : Nd} {n : Int} (hfr : s.free = fr ++ [k]) (hd' : s.nodes[k]? = some d) (hn : I64 n) :
    Pgp { s with free := fr, nodes := s.nodes.set k (d.take (tv n)) } Ls ∧
    refOf { s with free := fr, nodes := s.nodes.set k (d.take (tv n)) } Ls = { refOf s Ls with dropped := fr, places := (refOf s Ls).places.set k ⟨(d.life + 1) % 4294967296, true, n, 0, false⟩ } := by
  have hw := h.wf
  have hk : k < s.nodes.length := (List.getElem?_eq_some_iff.1 hd').1
  have hq : d.inq = none := by
    obtain ⟨d1, h1, _, h3⟩ := h.fr k (by rw [hfr]; simp)
    rw [hd'] at h1; injection h1 with h1; subst h1; exact h3
  have hnd := hw.nd
  rw [hfr, List.nodup_append] at hnd
  have hkf : k ∉ fr := fun hm => hnd.2.2 k hm k (by simp) rfl
  have hflen := hw.flen
  have hcore := set_core (d' := d.take (tv n)) hk
  refine ⟨⟨⟨hw.room, by simpa using hw.len, fun i hi => by simpa using hw.free i (by rw [hfr]; simp [hi]), ?_, hnd.1, fun e he => ?_, fun e he => ?_⟩, h.nodup, fun i hi => ?_, h.len, fun j q L hq' hL => ?_, fun i c hc => ?_⟩, ?_⟩
  · rw [hfr] at hflen; simp at hflen ⊢; omega
  · rcases List.mem_or_eq_of_mem_set he with h1 | h1
    · exact hw.cells e h1
    · subst h1; rfl
  · rcases List.mem_or_eq_of_mem_set he with h1 | h1
    · exact hw.life e h1
    · subst h1; show (d.life + 1) % 4294967296 < _; omega
  · have hi' : i ∈ fr := hi
    obtain ⟨e, h1, h2, h3⟩ := h.fr i (by rw [hfr]; simp [hi'])
    exact ⟨e, by show (s.nodes.set k _)[i]? = _; rw [List.getElem?_set_ne (fun ee : k = i => hkf (by rw [ee]; exact hi'))]; exact h1, h2, h3⟩
  · exact set_far (h.ok j q L hq' hL) hd' (by rw [hq]; simp) (by show d.inq ≠ _; rw [hq]; simp)
  · have hc' : coreOf (s.nodes.set k (d.take (tv n))) i = some c := hc
    rw [hcore] at hc'
    split at hc'
    · injection hc' with hc'
      subst hc'
      exact ⟨fun b hb => (by have hb' : d.inq = some b := hb; rw [hq] at hb'; cases hb'), fun _ => ⟨n, hn, rfl⟩, fun hz => (by cases hz)⟩
    · rename_i hik
      exact (h.cok i c hc').mono (fun _ hb => hb) fun _ hm => by
        rw [hfr] at hm
        rcases List.mem_append.1 hm with h1 | h1
        · exact h1
        · simp at h1; exact absurd h1 hik
  · refine rf_ext (ref_set (s := s) (Ls := Ls) (by rfl) (h.room hd').1 ?_ fun j hj => ?_) rfl (by simp [refOf]) rfl
    · show plOf (blks s) (coreOf (s.nodes.set k (d.take (tv n))) k) = _
      rw [hcore, if_pos rfl]
      show Pl.mk _ _ _ (qnum (blks s) d.inq) (d.inq.isSome && false) = _
      rw [hq]; rfl
    · show plOf (blks s) (coreOf (s.nodes.set k (d.take (tv n))) j) = _
      rw [hcore, if_neg hj]; rfl
theorem Pgp.take2 (h : Pgp s Ls) {n : Int} (hfr : s.free = []) (hlt : s.nodes.length < s.room) (hn : I64 n) :
    Pgp { s with nodes := s.nodes ++ [nd0 (tv n)] } Ls ∧
    refOf { s with nodes := s.nodes ++ [nd0 (tv n)] } Ls = { refOf s Ls with ever := s.nodes.length + 1, places := (refOf s Ls).places.set s.nodes.length ⟨1, true, n, 0, false⟩ } := by
  have hw := h.wf
  have hcore := snoc_core s.nodes (nd0 (tv n))
  refine ⟨⟨⟨hw.room, by simp; omega, fun i hi => by rw [hfr] at hi; simp at hi, by rw [hfr]; simp, hw.nd, fun d hd => ?_, fun d hd => ?_⟩, h.nodup, fun i hi => ?_, h.len, fun j q L hq' hL => ?_, fun i c hc => ?_⟩, ?_⟩
  · rcases List.mem_append.1 hd with h1 | h1
    · exact hw.cells d h1
    · simp at h1; subst h1; rfl
  · rcases List.mem_append.1 hd with h1 | h1
    · exact hw.life d h1
    · simp at h1; subst h1; show 1 < _; omega
  · have hi' : i ∈ s.free := hi
    rw [hfr] at hi'; simp at hi'
  · exact snoc_far (h.ok j q L hq' hL) (by simp [nd0])
  · have hc' : coreOf (s.nodes ++ [nd0 (tv n)]) i = some c := hc
    rw [hcore] at hc'
    split at hc'
    · injection hc' with hc'
      subst hc'
      exact ⟨fun b hb => (by cases hb), fun _ => ⟨n, hn, rfl⟩, fun hz => (by cases hz)⟩
    · exact h.cok i c hc'
  · refine rf_ext (ref_set (s := s) (Ls := Ls) (by rfl) hlt ?_ fun j hj => ?_) rfl (by simp [refOf]) rfl
    · show plOf (blks s) (coreOf (s.nodes ++ [nd0 (tv n)]) s.nodes.length) = _
      rw [hcore, if_pos rfl]; rfl
    · show plOf (blks s) (coreOf (s.nodes ++ [nd0 (tv n)]) j) = _
      rw [hcore, if_neg hj]; rfl

/-! ### Drop -/
theorem Pgp.drop (h : Pgp s Ls) {i : Nat} {d : Nd} (hd' : s.nodes[i]? = some d) (ht : d.taken = true) (hq : d.inq = none) :
    Pgp { s with nodes := s.nodes.set i (d.drop tz), free := s.free ++ [i] } Ls ∧
    refOf { s with nodes := s.nodes.set i (d.drop tz), free := s.free ++ [i] } Ls = (refOf s Ls).gives i (plAt s i) := by
  have hi : i < s.nodes.length := (List.getElem?_eq_some_iff.1 hd').1
  have hif := h.not_free hd' ht
  have hcore := set_core (d' := d.drop tz) hi
  have hw1 : Ar.wf 2 { s with nodes := s.nodes.set i (d.drop tz) } := by
    refine wf_nodes h.wf (by simp) fun k x hx => ?_
    rw [hcore] at hx
    split at hx
    · rename_i hk
      subst hk
      injection hx with hx
      subst hx
      exact ⟨_, coreOf_some hd', rfl, .inr rfl⟩
    · exact ⟨x, hx, rfl, .inl rfl⟩
  refine ⟨⟨wf_drop hw1 (by simpa using hi) hif, h.nodup, fun k hk => ?_, h.len, fun j q L hq' hL => ?_, fun k c hc => ?_⟩, ?_⟩
  · rcases List.mem_append.1 hk with h1 | h1
    · obtain ⟨e, h2, h3, h4⟩ := h.fr k h1
      exact ⟨e, by show (s.nodes.set i _)[k]? = _; rw [List.getElem?_set_ne (fun ee : i = k => hif (by rw [ee]; exact h1))]; exact h2, h3, h4⟩
    · simp at h1
      subst h1
      exact ⟨d.drop tz, List.getElem?_set_self hi, rfl, hq⟩
  · exact set_far (h.ok j q L hq' hL) hd' (by rw [hq]; simp) (by show d.inq ≠ _; rw [hq]; simp)
  · have hc' : coreOf (s.nodes.set i (d.drop tz)) k = some c := hc
    rw [hcore] at hc'
    split at hc'
    · rename_i hk
      injection hc' with hc'
      subst hc'
      exact ⟨fun b hb => (by have hb' : d.inq = some b := hb; rw [hq] at hb'; cases hb'), fun ht' => (by cases ht'), fun _ => ⟨rfl, by show k ∈ s.free ++ [i]; simp [hk]⟩⟩
    · exact (h.cok k c hc').mono (fun _ hb => hb) fun _ hm => by show k ∈ s.free ++ [i]; simp [hm]
  · refine rf_ext (ref_set (s := s) (Ls := Ls) (by rfl) (h.room hd').1 ?_ fun j hj => ?_) rfl (by simp [refOf, Rf.gives]) rfl
    · show plOf (blks s) (coreOf (s.nodes.set i (d.drop tz)) i) = _
      rw [hcore, if_pos rfl, plAt_at hd']
      show Pl.mk _ _ _ (qnum (blks s) d.inq) (d.inq.isSome && d.dead) = _
      rw [hq]; rfl
    · show plOf (blks s) (coreOf (s.nodes.set i (d.drop tz)) j) = _
      rw [hcore, if_neg hj]; rfl

/-! ### Set -/
theorem lk_same {ns ns' : List Nd} {b : Nat} {p : Int} {L : List Nat} {nx : Int} (h : Lk ns b p L nx)
    (he : ∀ (k : Nat) (d : Nd), ns[k]? = some d → ∃ d', ns'[k]? = some d' ∧ d'.taken = d.taken ∧ d'.inq = d.inq ∧ d'.ahead = d.ahead ∧ d'.back = d.back) : Lk ns' b p L nx := by
  induction L generalizing p with
  | nil => trivial
  | cons i L ih =>
    obtain ⟨⟨d, h1, h2, h3, h4, h5⟩, h6⟩ := h
    obtain ⟨d', e1, e2, e3, e4, e5⟩ := he i d h1
    exact ⟨⟨d', e1, e2.trans h2, e3.trans h3, e4.trans h4, e5.trans h5⟩, ih h6⟩
theorem QOk.setv {ns : List Nd} {q : Qu} {L : List Nat} {i : Nat} {d : Nd} {v : List Value} (h : QOk ns q L) (hd' : ns[i]? = some d) : QOk (ns.set i { d with v := v }) q L := by
  have hi : i < ns.length := (List.getElem?_eq_some_iff.1 hd').1
  have hcore := set_core (d' := { d with v := v }) hi
  have hal : ∀ k, alive (ns.set i { d with v := v }) k = alive ns k := fun k => by
    rw [alive_core, alive_core, hcore]
    by_cases e : k = i
    · subst e; rw [if_pos rfl, coreOf_some hd']; rfl
    · rw [if_neg e]
  refine ⟨lk_same h.lk fun k e he => ?_, h.first, h.last, h.nd, fun k e he hq => ?_, ?_, ?_⟩
  · by_cases hk : k = i
    · subst hk
      rw [hd'] at he; injection he with he; subst he
      exact ⟨_, List.getElem?_set_self hi, rfl, rfl, rfl, rfl⟩
    · exact ⟨e, by rw [List.getElem?_set_ne (fun ee => hk ee.symm)]; exact he, rfl, rfl, rfl, rfl⟩
  · by_cases hk : k = i
    · subst hk
      rw [List.getElem?_set_self hi] at he; injection he with he; subst he
      exact h.all k d hd' hq
    · rw [List.getElem?_set_ne (fun ee => hk ee.symm)] at he
      exact h.all k e he hq
  · rw [h.live, List.filter_congr (fun k _ => (hal k).symm)]
  · rw [h.dead, List.filter_congr (p := fun i => !alive ns i) (q := fun j => !alive (ns.set i { d with v := v }) j) (fun k _ => by rw [hal k])]
theorem Pgp.setv (h : Pgp s Ls) {i : Nat} {d : Nd} {n : Int} (hd' : s.nodes[i]? = some d) (ht : d.taken = true) (hn : I64 n) :
    Pgp { s with nodes := s.nodes.set i { d with v := tv n } } Ls ∧
    refOf { s with nodes := s.nodes.set i { d with v := tv n } } Ls = { refOf s Ls with places := (refOf s Ls).places.set i { plAt s i with value := n } } := by
  have hi : i < s.nodes.length := (List.getElem?_eq_some_iff.1 hd').1
  have hif := h.not_free hd' ht
  have hcore := set_core (d' := { d with v := tv n }) hi
  refine ⟨⟨?_, h.nodup, fun k hk => ?_, h.len, fun j q L hq' hL => (h.ok j q L hq' hL).setv hd', fun k c hc => ?_⟩, ?_⟩
  · refine wf_nodes h.wf (by simp) fun k x hx => ?_
    rw [hcore] at hx
    split at hx
    · rename_i hk
      subst hk
      injection hx with hx
      subst hx
      exact ⟨_, coreOf_some hd', rfl, .inr rfl⟩
    · exact ⟨x, hx, rfl, .inl rfl⟩
  · obtain ⟨e, h2, h3, h4⟩ := h.fr k hk
    have hk' : k ∈ s.free := hk
    exact ⟨e, by show (s.nodes.set i _)[k]? = _; rw [List.getElem?_set_ne (fun ee : i = k => hif (by rw [ee]; exact hk'))]; exact h2, h3, h4⟩
  · have hc' : coreOf (s.nodes.set i { d with v := tv n }) k = some c := hc
    rw [hcore] at hc'
    split at hc'
    · rename_i hk
      injection hc' with hc'
      subst hc'
      exact ⟨(h.cok i _ (coreOf_some hd')).inq, fun _ => ⟨n, hn, rfl⟩, fun hz => by have hz' : d.taken = false := hz; rw [ht] at hz'; cases hz'⟩
    · exact h.cok k c hc'
  · refine rf_ext (ref_set (s := s) (Ls := Ls) (by rfl) (h.room hd').1 ?_ fun j hj => ?_) rfl (by simp [refOf]) rfl
    · show plOf (blks s) (coreOf (s.nodes.set i { d with v := tv n }) i) = _
      rw [hcore, if_pos rfl, plAt_at hd']; rfl
    · show plOf (blks s) (coreOf (s.nodes.set i { d with v := tv n }) j) = _
      rw [hcore, if_neg hj]; rfl

/-! ### Another queue -/
theorem Pgp.queue (h : Pgp s Ls) {b : Nat} (hb : b ∉ blks s) :
    Pgp { s with qs := s.qs ++ [⟨b, -1, -1, 0, 0⟩] } (Ls ++ [[]]) ∧ refOf { s with qs := s.qs ++ [⟨b, -1, -1, 0, 0⟩] } (Ls ++ [[]]) = { refOf s Ls with queues := Ls ++ [[]] } := by
  have hbl : blks { s with qs := s.qs ++ [⟨b, -1, -1, 0, 0⟩] } = blks s ++ [b] := by unfold blks; simp
  have hnone : ∀ (k : Nat) (d : Nd), s.nodes[k]? = some d → d.inq ≠ some b := fun k d hd' e => hb ((h.cok k _ (coreOf_some hd')).inq b e).1
  refine ⟨⟨⟨h.wf.room, h.wf.len, h.wf.free, h.wf.flen, h.wf.nd, h.wf.cells, h.wf.life⟩, ?_, h.fr, by simp [h.len], fun j q L hq' hL => ?_, fun k c hc => ?_⟩, ?_⟩
  · rw [hbl, List.nodup_append]
    exact ⟨h.nodup, by simp, fun a ha c hc e => by simp at hc; subst hc; subst e; exact hb ha⟩
  · by_cases hj : j < s.qs.length
    · rw [List.getElem?_append_left hj] at hq'
      rw [List.getElem?_append_left (by rw [h.len]; exact hj)] at hL
      exact h.ok j q L hq' hL
    · have hj2 : j < s.qs.length + 1 := by have := (List.getElem?_eq_some_iff.1 hq').1; simpa using this
      have hj3 : j = s.qs.length := by omega
      subst hj3
      rw [List.getElem?_append_right (Nat.le_refl _)] at hq'
      rw [← h.len, List.getElem?_append_right (Nat.le_refl _)] at hL
      simp at hq' hL
      subst hq'
      subst hL
      exact ⟨trivial, rfl, rfl, by simp, fun i d hd hq => absurd hq (hnone i d hd), rfl, rfl⟩
  · exact (h.cok k c hc).mono (fun x hx => by rw [hbl]; simp [hx]) fun _ hm => hm
  · refine rf_ext (ref_same (s := s) (Ls := Ls) (by rfl) fun j => ?_) rfl rfl rfl
    unfold plAt
    rw [hbl]
    show plOf (blks s ++ [b]) (coreOf s.nodes j) = _
    cases hc : coreOf s.nodes j with
    | none => rfl
    | some c =>
      show plC _ c = plC _ c
      unfold plC
      have : qnum (blks s ++ [b]) c.2.2.2.2 = qnum (blks s) c.2.2.2.2 := by
        cases hi : c.2.2.2.2 with
        | none => rfl
        | some x =>
          have hx := ((h.cok j c hc).inq x hi).1
          unfold qnum
          simp only
          rw [List.idxOf_append, if_pos hx]
      rw [this]
end
end Go.Proofs.Ytnhedhmffgaohaa
