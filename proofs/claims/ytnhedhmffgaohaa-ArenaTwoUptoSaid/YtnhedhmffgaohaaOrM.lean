/- The handles of a queue that are not dead, as a plain list; what each step makes of them. No program in sight. -/
import Derived.Test.YtnhedhmffgaohaaQuM2
import Derived.Test.YtnhedhmffgaohaaHd
namespace Go.Proofs.Ytnhedhmffgaohaa

/-- The handles of places. -/
def hds (ns : List Nd) (L : List Nat) : List Hd := L.filterMap fun i => (ns[i]?).map fun d => ⟨i, d.life⟩
theorem hds_append (ns : List Nd) (L M : List Nat) : hds ns (L ++ M) = hds ns L ++ hds ns M := List.filterMap_append
theorem hds_one {ns : List Nd} {i : Nat} {d : Nd} (h : ns[i]? = some d) : hds ns [i] = [⟨i, d.life⟩] := by simp [hds, h]
theorem hds_le (ns : List Nd) (L : List Nat) : (hds ns L).length ≤ L.length := List.length_filterMap_le _ _

def wOf (ns : List Nd) (i : Nat) : Option Hd := match coreOf ns i with | some x => if x.2.2.2.1 = true then none else some ⟨i, x.2.1⟩ | none => none
def wnt (ns : List Nd) (L : List Nat) : List Hd := L.filterMap (wOf ns)
theorem wOf_at {ns : List Nd} {i : Nat} {d : Nd} (h : ns[i]? = some d) : wOf ns i = if d.dead = true then none else some ⟨i, d.life⟩ := by
  unfold wOf; rw [coreOf_some h]; rfl
theorem wnt_hds (ns : List Nd) (L : List Nat) : hds ns (L.filter (alive ns)) = wnt ns L := by
  unfold hds wnt
  rw [List.filterMap_filter]
  congr 1
  funext i
  cases h : ns[i]? with
  | none =>
    have h1 : coreOf ns i = none := by simp [coreOf, h]
    simp [wOf, h1]
  | some d =>
    rw [wOf_at h, alive_at h]
    cases d.dead <;> simp
theorem wnt_append (ns : List Nd) (L M : List Nat) : wnt ns (L ++ M) = wnt ns L ++ wnt ns M := List.filterMap_append
theorem wnt_congr {ns ns' : List Nd} {L : List Nat} (h : ∀ k ∈ L, coreOf ns' k = coreOf ns k) : wnt ns' L = wnt ns L := by
  unfold wnt
  have h1 : ∀ k ∈ L, wOf ns' k = wOf ns k := fun k hk => by unfold wOf; rw [h k hk]
  clear h
  induction L with
  | nil => rfl
  | cons k L ih => rw [List.filterMap_cons, List.filterMap_cons, h1 k (by simp), ih (fun j hj => h1 j (by simp [hj]))]
theorem wnt_mem {ns : List Nd} {L : List Nat} {h : Hd} (hm : h ∈ wnt ns L) : h.ix ∈ L ∧ ∃ d, ns[h.ix]? = some d ∧ d.dead = false ∧ d.life = h.life := by
  obtain ⟨k, hk, he⟩ := List.mem_filterMap.1 hm
  cases hc : coreOf ns k with
  | none => unfold wOf at he; rw [hc] at he; cases he
  | some x =>
    obtain ⟨d, h1, h2⟩ := of_coreOf hc
    rw [wOf_at h1] at he
    split at he
    · cases he
    · rename_i hdd
      injection he with he
      subst he
      exact ⟨hk, d, h1, by simpa using hdd, rfl⟩
theorem wnt_dead {ns : List Nd} {L : List Nat} (h : ∀ k ∈ L, alive ns k = false) : wnt ns L = [] := by
  rw [← wnt_hds, List.filter_eq_nil_iff.2 (fun k hk => by rw [h k hk]; simp)]; rfl
theorem wnt_one {ns : List Nd} {i : Nat} {d : Nd} (h : ns[i]? = some d) (hdd : d.dead = false) (L : List Nat) : wnt ns (i :: L) = ⟨i, d.life⟩ :: wnt ns L := by
  unfold wnt
  rw [List.filterMap_cons, wOf_at h, hdd]; rfl
theorem wnt_len {ns : List Nd} {q : Qu} {L : List Nat} (h : QOk ns q L) : ((wnt ns L).length : Int) = q.live ∧ q.live + q.dead = (L.length : Int) := by
  constructor
  · rw [h.live, ← wnt_hds]
    congr 1
    have : ∀ M : List Nat, (∀ k ∈ M, ∃ d, ns[k]? = some d) → (hds ns M).length = M.length := by
      intro M
      induction M with
      | nil => intro _; rfl
      | cons k M ih =>
        intro hM
        obtain ⟨d, hd'⟩ := hM k (by simp)
        have e : hds ns (k :: M) = ⟨k, d.life⟩ :: hds ns M := by unfold hds; rw [List.filterMap_cons, hd']; rfl
        rw [e, List.length_cons, ih (fun j hj => hM j (by simp [hj])), List.length_cons]
    refine this _ fun k hk => ?_
    obtain ⟨d, h1, _⟩ := lk_mem h.lk (List.mem_filter.1 hk).1
    exact ⟨d, h1⟩
  · rw [h.live, h.dead]
    have : ∀ M : List Nat, (M.filter (alive ns)).length + (M.filter fun i => !alive ns i).length = M.length := by
      intro M
      induction M with
      | nil => rfl
      | cons k M ih =>
        rw [List.filter_cons, List.filter_cons]
        cases alive ns k <;> simp <;> omega
    have := this L
    omega
/-- One is taken out of the handles. -/
theorem wout_at {ns ns' : List Nd} {L1 L2 : List Nat} {i : Nat} {d : Nd} (hnd : (L1 ++ i :: L2).Nodup) (hd' : ns[i]? = some d) (hdd : d.dead = false) (hc : ∀ k, k ≠ i → coreOf ns' k = coreOf ns k) :
    wnt ns' (L1 ++ L2) = wout (wnt ns (L1 ++ i :: L2)) ⟨i, d.life⟩ := by
  rw [List.nodup_append, List.nodup_cons] at hnd
  obtain ⟨n1, ⟨n2, n3⟩, n4⟩ := hnd
  have e1 : ∀ M : List Nat, i ∉ M → wout (wnt ns M) ⟨i, d.life⟩ = wnt ns' M := fun M hM => by
    rw [wnt_congr (ns' := ns') (fun k hk => hc k (fun e => hM (e ▸ hk)))]
    unfold wout
    refine List.filter_eq_self.2 fun h hh => ?_
    have := (wnt_mem hh).1
    simp
    intro e
    subst e
    exact hM this
  have e2 : ∀ l m : List Hd, wout (l ++ m) ⟨i, d.life⟩ = wout l ⟨i, d.life⟩ ++ wout m ⟨i, d.life⟩ := fun l m => by unfold wout; rw [List.filter_append]
  rw [wnt_append, wnt_append, e2, e1 L1 (fun hm => n4 i hm i (by simp) rfl), wnt_one hd' hdd]
  have e3 : wout (⟨i, d.life⟩ :: wnt ns L2) ⟨i, d.life⟩ = wout (wnt ns L2) ⟨i, d.life⟩ := by unfold wout; simp
  rw [e3, e1 L2 n2]
theorem wout_mark {ns ns' : List Nd} {L1 L2 : List Nat} {i : Nat} {d d' : Nd} (hnd : (L1 ++ i :: L2).Nodup) (hd' : ns[i]? = some d) (hdd : d.dead = false) (hn : ns'[i]? = some d') (hn' : d'.dead = true) (hc : ∀ k, k ≠ i → coreOf ns' k = coreOf ns k) :
    wnt ns' (L1 ++ i :: L2) = wout (wnt ns (L1 ++ i :: L2)) ⟨i, d.life⟩ := by
  rw [← wout_at hnd hd' hdd hc, wnt_append, wnt_append]
  congr 1
  unfold wnt
  rw [List.filterMap_cons, wOf_at hn, hn']; rfl
theorem Swept.wnt {m : Nat} {z : List Value} {j : Nat} {s s' : Ar} {q q' : Qu} {P M : List Nat} (h : Swept m z j s s' q q' P M) : Proofs.Ytnhedhmffgaohaa.wnt s'.nodes (P.filter (Proofs.Ytnhedhmffgaohaa.alive s.nodes) ++ M) = Proofs.Ytnhedhmffgaohaa.wnt s.nodes (P ++ M) := by
  have hnd := h.nd
  rw [List.nodup_append] at hnd
  rw [wnt_append, wnt_append, wnt_congr (L := M) (ns' := s'.nodes) (ns := s.nodes) (fun k hk => by rw [h.core, if_neg (fun hh => hnd.2.2 k hh.1 k hk rfl)])]
  congr 1
  rw [wnt_congr (L := P.filter (Proofs.Ytnhedhmffgaohaa.alive s.nodes)) (ns' := s'.nodes) (ns := s.nodes) (fun k hk => by rw [h.core, if_neg (fun hh => by have := (List.mem_filter.1 hk).2; rw [hh.2] at this; cases this)])]
  rw [← wnt_hds, ← wnt_hds, List.filter_filter]
  congr 1
  simp

end Go.Proofs.Ytnhedhmffgaohaa
