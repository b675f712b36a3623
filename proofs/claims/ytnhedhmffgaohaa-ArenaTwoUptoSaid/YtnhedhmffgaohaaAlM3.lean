/- ArenaAll, the plain part: what a queue's steps make of the program's state, and of the document's. No program in sight. -/
import Derived.Test.YtnhedhmffgaohaaAlM2
namespace Go.Proofs.Ytnhedhmffgaohaa

section
variable {s : Ar} {Ls : List (List Nat)}
theorem free_core (h : s.fr) {ns : List Nd} {fr : List Nat} (hc : ∀ k ∈ s.free, coreOf ns k = coreOf s.nodes k) (hn : ∀ k ∈ fr, k ∈ s.free ∨ ∃ c, coreOf ns k = some c ∧ c.2.2.1 = false ∧ c.2.2.2.2 = none) {qs : List Qu} : Ar.fr { s with nodes := ns, free := fr, qs := qs } := by
  intro k hk
  rcases hn k hk with h0 | ⟨c, h1, h2, h3⟩
  · obtain ⟨d, h1, h2, h3⟩ := h k h0
    obtain ⟨e, h4, h5⟩ := of_coreOf ((hc k h0).trans (coreOf_some h1))
    exact ⟨e, h4, (congrArg (fun x => x.2.2.1) h5).trans h2, (congrArg (fun x => x.2.2.2.2) h5).trans h3⟩
  · obtain ⟨e, h4, h5⟩ := of_coreOf h1
    exact ⟨e, h4, (congrArg (fun x => x.2.2.1) h5).trans h2, (congrArg (fun x => x.2.2.2.2) h5).trans h3⟩
theorem Pgp.lo (h : Pgp s Ls) {j : Nat} {q : Qu} {L : List Nat} (hq : s.qs[j]? = some q) (hL : Ls[j]? = some L) : L.length ≤ 65536 := by
  have hok := h.ok j q L hq hL
  have h1 := nodup_le (n := s.nodes.length) hok.nd fun k hk => by
    obtain ⟨e, h2, _⟩ := lk_mem hok.lk hk
    exact (List.getElem?_eq_some_iff.1 h2).1
  have := h.wf.len
  have := h.wf.room
  omega

/-! ### Push -/
theorem Pgp.push (h : Pgp s Ls) {i j : Nat} {d : Nd} {q : Qu} {L : List Nat} (hd' : s.nodes[i]? = some d) (ht : d.taken = true) (hin : d.inq = none) (hq : s.qs[j]? = some q) (hL : Ls[j]? = some L) :
    Pgp { s with nodes := pushN s.nodes i q d, qs := s.qs.set j (pushQ q i) } (Ls.set j (L ++ [i])) ∧
    refOf { s with nodes := pushN s.nodes i q d, qs := s.qs.set j (pushQ q i) } (Ls.set j (L ++ [i])) = { refOf s Ls with places := (refOf s Ls).places.set i { plAt s i with inn := j + 1 }, queues := Ls.set j (L ++ [i]) } := by
  have hi : i < s.nodes.length := (List.getElem?_eq_some_iff.1 hd').1
  have hif := h.not_free hd' ht
  have hok := h.ok j q L hq hL
  have hcore := pushN_core s.nodes i q d hi
  have hbl := blks_set (s := s) hq (q1 := pushQ q i) rfl (ns := pushN s.nodes i q d) (fr := s.free)
  have hqm : q.blk ∈ blks s := by unfold blks; exact List.mem_map.2 ⟨q, List.mem_of_getElem? hq, rfl⟩
  refine ⟨⟨wf_push h.wf hd', by rw [hbl]; exact h.nodup, free_core h.fr (fun k hk => by rw [hcore, if_neg (fun e : k = i => hif (by rw [← e]; exact hk))]) (fun k hk => .inl hk), by simp [h.len], ?_, fun k c hc => ?_⟩, ?_⟩
  · exact ok_set h hq (push_ok hok hd' hin ht) fun q0 L0 hne h0 => push_far hok h0 hne hd' hin
  · rw [hbl]
    have hc' : coreOf (pushN s.nodes i q d) k = some c := hc
    rw [hcore] at hc'
    split at hc'
    · injection hc' with hc'
      subst hc'
      exact ⟨fun b hb => by injection hb with hb; subst hb; exact ⟨hqm, ht⟩, (h.cok i _ (coreOf_some hd')).v, fun hz => by have hz' : d.taken = false := hz; rw [ht] at hz'; cases hz'⟩
    · exact h.cok k c hc'
  · refine rf_ext (ref_set (s := s) (Ls := Ls) (by rfl) (h.room hd').1 ?_ fun k hk => ?_) rfl (by simp [refOf]) rfl
    · show plOf (blks { s with nodes := pushN s.nodes i q d, qs := s.qs.set j (pushQ q i) }) (coreOf (pushN s.nodes i q d) i) = _
      rw [hcore, if_pos rfl, hbl, plAt_at hd']
      show Pl.mk _ _ _ (qnum (blks s) (some q.blk)) _ = _
      rw [qnum_at h.nodup hq, hin]; rfl
    · show plOf (blks { s with nodes := pushN s.nodes i q d, qs := s.qs.set j (pushQ q i) }) (coreOf (pushN s.nodes i q d) k) = _
      rw [hcore, if_neg hk, hbl]; rfl

/-! ### Mark -/
theorem Pgp.mark (h : Pgp s Ls) {i j : Nat} {d : Nd} {q : Qu} {L : List Nat} (hd' : s.nodes[i]? = some d) (ht : d.taken = true) (hin : d.inq = some q.blk) (hdd : d.dead = false) (hq : s.qs[j]? = some q) (hL : Ls[j]? = some L) :
    Pgp { s with nodes := markN s.nodes i d, qs := s.qs.set j (markQ q) } Ls ∧
    refOf { s with nodes := markN s.nodes i d, qs := s.qs.set j (markQ q) } Ls = { refOf s Ls with places := (refOf s Ls).places.set i { plAt s i with dead := true } } := by
  have hi : i < s.nodes.length := (List.getElem?_eq_some_iff.1 hd').1
  have hif := h.not_free hd' ht
  have hok := h.ok j q L hq hL
  have hm := hok.all i d hd' hin
  have hcore := markN_core s.nodes i d hi
  have hbl := blks_set (s := s) hq (q1 := markQ q) rfl (ns := markN s.nodes i d) (fr := s.free)
  have hLs : Ls = Ls.set j L := by
    obtain ⟨hj, h1⟩ := List.getElem?_eq_some_iff.1 hL
    rw [← h1, List.set_getElem_self]
  refine ⟨⟨wf_mark h.wf hd', by rw [hbl]; exact h.nodup, free_core h.fr (fun k hk => by rw [hcore, if_neg (fun e : k = i => hif (by rw [← e]; exact hk))]) (fun k hk => .inl hk), by simp [h.len], ?_, fun k c hc => ?_⟩, ?_⟩
  · rw [hLs]
    exact ok_set h hq (mark_ok hok hd' hm hdd) fun q0 L0 hne h0 => set_far h0 hd' (by rw [hin]; intro e; injection e with e; exact hne e.symm) (by show d.inq ≠ _; rw [hin]; intro e; injection e with e; exact hne e.symm)
  · rw [hbl]
    have hc' : coreOf (markN s.nodes i d) k = some c := hc
    rw [hcore] at hc'
    split at hc'
    · injection hc' with hc'
      subst hc'
      have h1 := h.cok i _ (coreOf_some hd')
      exact ⟨h1.inq, h1.v, fun hz => by have hz' : d.taken = false := hz; rw [ht] at hz'; cases hz'⟩
    · exact h.cok k c hc'
  · refine rf_ext (ref_set (s := s) (Ls := Ls) (by rfl) (h.room hd').1 ?_ fun k hk => ?_) rfl (by simp [refOf]) rfl
    · show plOf (blks { s with nodes := markN s.nodes i d, qs := s.qs.set j (markQ q) }) (coreOf (markN s.nodes i d) i) = _
      rw [hcore, if_pos rfl, hbl, plAt_at hd']
      show Pl.mk _ _ _ (qnum (blks s) d.inq) (d.inq.isSome && true) = _
      rw [hin]; rfl
    · show plOf (blks { s with nodes := markN s.nodes i d, qs := s.qs.set j (markQ q) }) (coreOf (markN s.nodes i d) k) = _
      rw [hcore, if_neg hk, hbl]; rfl

/-! ### Remove -/
theorem filter_out {L1 L2 : List Nat} {i : Nat} (hnd : (L1 ++ i :: L2).Nodup) : (L1 ++ i :: L2).filter (fun k => k != i) = L1 ++ L2 := by
  rw [List.nodup_append, List.nodup_cons] at hnd
  obtain ⟨n1, ⟨n2, n3⟩, n4⟩ := hnd
  rw [List.filter_append, List.filter_cons]
  simp only [bne_self_eq_false, Bool.false_eq_true, if_false]
  rw [List.filter_eq_self.2, List.filter_eq_self.2]
  · intro k hk; simp; intro e; subst e; exact n2 hk
  · intro k hk; simp; intro e; subst e; exact n4 k hk k (by simp) rfl
theorem Pgp.out (h : Pgp s Ls) {i j : Nat} {d : Nd} {q : Qu} {L1 L2 : List Nat} (hd' : s.nodes[i]? = some d) (hq : s.qs[j]? = some q) (hL : Ls[j]? = some (L1 ++ i :: L2)) :
    Pgp { s with nodes := outN s.nodes i d, qs := s.qs.set j (outQ q d) } (Ls.set j (L1 ++ L2)) ∧
    refOf { s with nodes := outN s.nodes i d, qs := s.qs.set j (outQ q d) } (Ls.set j (L1 ++ L2)) = (refOf s Ls).out j i (plAt s i) (L1 ++ i :: L2) := by
  have hi : i < s.nodes.length := (List.getElem?_eq_some_iff.1 hd').1
  have hok := h.ok j q _ hq hL
  obtain ⟨ht, hin, _, _⟩ := lk_at hok.lk hd'
  have hif := h.not_free hd' ht
  have hcore := outN_core s.nodes i d hi
  have hbl := blks_set (s := s) hq (q1 := outQ q d) rfl (ns := outN s.nodes i d) (fr := s.free)
  refine ⟨⟨wf_out h.wf hd', by rw [hbl]; exact h.nodup, free_core h.fr (fun k hk => by rw [hcore, if_neg (fun e : k = i => hif (by rw [← e]; exact hk))]) (fun k hk => .inl hk), by simp [h.len], ?_, fun k c hc => ?_⟩, ?_⟩
  · exact ok_set h hq (out_ok hok hd') fun q0 L0 hne h0 => out_far hok h0 hne hd'
  · rw [hbl]
    have hc' : coreOf (outN s.nodes i d) k = some c := hc
    rw [hcore] at hc'
    split at hc'
    · injection hc' with hc'
      subst hc'
      have h1 := h.cok i _ (coreOf_some hd')
      exact ⟨fun b hb => (by cases hb), h1.v, fun hz => by have hz' : d.taken = false := hz; rw [ht] at hz'; cases hz'⟩
    · exact h.cok k c hc'
  · refine rf_ext (ref_set (s := s) (Ls := Ls) (by rfl) (h.room hd').1 ?_ fun k hk => ?_) rfl (by simp [refOf, Rf.out]) (by simp [refOf, Rf.out, filter_out hok.nd])
    · show plOf (blks { s with nodes := outN s.nodes i d, qs := s.qs.set j (outQ q d) }) (coreOf (outN s.nodes i d) i) = _
      rw [hcore, if_pos rfl, hbl, plAt_at hd']; rfl
    · show plOf (blks { s with nodes := outN s.nodes i d, qs := s.qs.set j (outQ q d) }) (coreOf (outN s.nodes i d) k) = _
      rw [hcore, if_neg hk, hbl]; rfl

/-! ### Sweep, and the first part of Pop -/
theorem Pgp.dead_at (h : Pgp s Ls) {j : Nat} {q : Qu} {L : List Nat} (hq : s.qs[j]? = some q) (hL : Ls[j]? = some L) {k : Nat} (hk : k ∈ L) : deadAt (refOf s Ls).places k = !alive s.nodes k ∧ (plAt s k).dead = !alive s.nodes k := by
  obtain ⟨d, h1, h2, h3⟩ := lk_mem (h.ok j q L hq hL).lk hk
  unfold deadAt
  rw [ref_get s Ls (h.room h1).1, plAt_at h1, alive_at h1, h3]
  simp
theorem Pgp.swept (h : Pgp s Ls) {j : Nat} {s' : Ar} {q q' : Qu} {P M : List Nat} (hq : s.qs[j]? = some q) (hL : Ls[j]? = some (P ++ M)) (hs : Swept 2 tz j s s' q q' P M) :
    Pgp s' (Ls.set j (P.filter (alive s.nodes) ++ M)) ∧ refOf s' (Ls.set j (P.filter (alive s.nodes) ++ M)) = (refOf s Ls).swept j P M := by
  have hbl : blks s' = blks s := by
    unfold blks
    rw [hs.qs, List.map_set, hs.blk]
    obtain ⟨hj, hq⟩ := List.getElem?_eq_some_iff.1 hq
    subst hq
    have : s.qs[j].blk = (s.qs.map Qu.blk)[j]'(by simpa using hj) := by simp
    rw [this, List.set_getElem_self]
  have hdead : ∀ k ∈ P, deadAt (refOf s Ls).places k = !alive s.nodes k ∧ (plAt s k).dead = !alive s.nodes k := fun k hk => h.dead_at hq hL (by simp [hk])
  refine ⟨⟨hs.wf, by rw [hbl]; exact h.nodup, hs.fr, by rw [hs.qs]; simp [h.len], ?_, fun k c hc => ?_⟩, ?_⟩
  · rw [hs.qs]
    exact ok_set h hq hs.ok hs.far
  · rw [hbl]
    rw [hs.core] at hc
    have hfm : ∀ x ∈ s.free, x ∈ s'.free := fun x hx => by rw [hs.free]; simp [hx]
    split at hc
    · rename_i hk
      obtain ⟨x, h1, h2⟩ := Option.map_eq_some_iff.1 hc
      subst h2
      exact ⟨fun b hb => (by cases hb), fun ht => (by cases ht), fun _ => ⟨rfl, by rw [hs.free]; simp [hk]⟩⟩
    · exact (h.cok k c hc).mono (fun _ hb => hb) fun _ hm => hfm k hm
  · refine rf_ext (List.ext_getElem? fun k => ?_) ?_ hs.len ?_
    · show _ = (sweptPl P (refOf s Ls).places)[k]?
      unfold sweptPl
      rw [List.getElem?_mapIdx]
      by_cases hk : k < s.room
      · rw [ref_get s' _ (by rw [hs.room]; exact hk), ref_get s Ls hk]
        show some (plOf (blks s') (coreOf s'.nodes k)) = some (if k ∈ P ∧ (plAt s k).dead = true then (plAt s k).gone else plAt s k)
        rw [hbl, hs.core]
        by_cases hP : k ∈ P
        · by_cases ha : alive s.nodes k = false
          · rw [if_pos ⟨hP, ha⟩, if_pos ⟨hP, by rw [(hdead k hP).2, ha]; rfl⟩]
            obtain ⟨d, h1, _, _⟩ := lk_mem (h.ok j q _ hq hL).lk (k := k) (by simp [hP])
            rw [coreOf_some h1, plAt_at h1]; rfl
          · rw [if_neg (fun e => ha e.2), if_neg (fun e => by rw [(hdead k hP).2] at e; simp at e; exact ha e.2)]; rfl
        · rw [if_neg (fun e => hP e.1), if_neg (fun e => hP e.1)]; rfl
      · rw [List.getElem?_eq_none (by rw [ref_len, hs.room]; omega), List.getElem?_eq_none (by rw [ref_len]; omega)]; rfl
    · show s'.free = s.free ++ P.filter (deadAt (refOf s Ls).places)
      rw [hs.free, List.filter_congr (q := deadAt (refOf s Ls).places) (fun k hk => ((hdead k hk).1).symm)]
    · show Ls.set j _ = Ls.set j _
      rw [List.filter_congr (p := fun k => !deadAt (refOf s Ls).places k) (q := alive s.nodes) (fun k hk => by rw [(hdead k hk).1]; simp)]

/-! ### What can be seen -/
theorem Pgp.rall (h : Pgp s Ls) {j : Nat} {q : Qu} {L M : List Nat} (hq : s.qs[j]? = some q) (hL : Ls[j]? = some L) (hM : ∀ k ∈ M, k ∈ L) : Proofs.Ytnhedhmffgaohaa.rall (refOf s Ls).places M = wnt s.nodes M := by
  unfold Proofs.Ytnhedhmffgaohaa.rall wnt
  have key : ∀ k ∈ M, rh (refOf s Ls).places k = wOf s.nodes k := fun k hk => by
    obtain ⟨d, h1, h2, h3⟩ := lk_mem (h.ok j q L hq hL).lk (hM k hk)
    unfold rh
    rw [ref_get s Ls (h.room h1).1, plAt_at h1, wOf_at h1, h3]
    simp
  clear hM
  induction M with
  | nil => rfl
  | cons k M ih => rw [List.filterMap_cons, List.filterMap_cons, key k (by simp), ih (fun x hx => key x (by simp [hx]))]
theorem count_range (p : Nat → Bool) (n : Nat) {F : List Nat} (hF : F.Nodup) (h1 : ∀ k ∈ F, k < n ∧ p k = false) (h2 : ∀ k, k < n → p k = false → k ∈ F) : ((List.range n).filter p).length + F.length = n := by
  have hp : F.Perm ((List.range n).filter fun k => !p k) := by
    rw [List.perm_ext_iff_of_nodup hF (List.nodup_range.filter _)]
    intro k
    simp only [List.mem_filter, List.mem_range]
    constructor
    · intro hk; obtain ⟨a, b⟩ := h1 k hk; exact ⟨a, by rw [b]; rfl⟩
    · rintro ⟨a, b⟩; exact h2 k a (by simpa using b)
  have h3 : ∀ l : List Nat, (l.filter p).length + (l.filter fun k => !p k).length = l.length := by
    intro l
    induction l with
    | nil => rfl
    | cons k l ih => rw [List.filter_cons, List.filter_cons]; cases p k <;> simp <;> omega
  have h4 := h3 (List.range n)
  rw [List.length_range] at h4
  rw [hp.length_eq]
  exact h4
/-- How many places are taken. -/
theorem Pgp.count (h : Pgp s Ls) : ((refOf s Ls).places.filter Pl.taken).length = s.nodes.length - s.free.length := by
  have h1 : ((refOf s Ls).places.filter Pl.taken).length = ((List.range s.room).filter fun k => (plAt s k).taken).length := by
    unfold refOf
    rw [List.filter_map, List.length_map]
    rfl
  have h2 : (List.range s.room).filter (fun k => (plAt s k).taken) = (List.range s.nodes.length).filter (fun k => (plAt s k).taken) := by
    obtain ⟨m, hm⟩ : ∃ m, s.room = s.nodes.length + m := ⟨s.room - s.nodes.length, by have := h.wf.len; omega⟩
    rw [hm, List.range_add, List.filter_append]
    have : ((List.range m).map (s.nodes.length + ·)).filter (fun k => (plAt s k).taken) = [] := by
      refine List.filter_eq_nil_iff.2 fun k hk => ?_
      obtain ⟨x, _, rfl⟩ := List.mem_map.1 hk
      rw [plAt_no (by omega)]; simp [pl0]
    rw [this, List.append_nil]
  have h3 := count_range (fun k => (plAt s k).taken) s.nodes.length h.wf.nd (fun k hk => by
    obtain ⟨d, e1, e2, _⟩ := h.fr k hk
    exact ⟨(List.getElem?_eq_some_iff.1 e1).1, by rw [plAt_at e1]; exact e2⟩) (fun k hk hp => by
    have e : s.nodes[k]? = some s.nodes[k] := List.getElem?_eq_getElem hk
    rw [plAt_at e] at hp
    exact ((h.cok k _ (coreOf_some e)).z hp).2)
  rw [h1, h2]
  omega
end
end Go.Proofs.Ytnhedhmffgaohaa
