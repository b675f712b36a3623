/- The plain law behind ArenaLives: what holds at each round's head, and what each kind of round makes of it. No program in sight. -/
import Derived.Test.YtnhedhmffgaohaaHd
namespace Go.Proofs.Ytnhedhmffgaohaa
namespace Lv

structure LInv (s : Ar) (tk : List Hd) (life : Nat → Nat) : Prop where
  wf : s.wf 1
  noq : ∀ d ∈ s.nodes, d.inq = none
  hold : ∀ h ∈ tk, ∃ d, s.nodes[h.ix]? = some d ∧ d.taken = true ∧ d.life = h.life
  nd : (tk.map Hd.ix).Nodup
  cnt : tk.length + s.free.length = s.nodes.length
  fr : ∀ i ∈ s.free, ∀ d, s.nodes[i]? = some d → d.taken = false
  lf : ∀ i, life i = ((s.nodes[i]?).map Nd.life).getD 0

def upd (f : Nat → Nat) (k v : Nat) (i : Nat) : Nat := if i = k then v else f i

theorem linv_start (room : Nat) (h : room ≤ 65536) : LInv ⟨room, [], [], []⟩ [] (fun _ => 0) :=
  ⟨⟨h, by simp, by simp, by simp, by simp, by simp, by simp⟩, by simp, by simp, by simp, rfl, by simp, by simp⟩

theorem linv_take1 {s : Ar} {tk : List Hd} {life : Nat → Nat} {fr : List Nat} {k : Nat} {d : Nd} (h : LInv s tk life) (hfr : s.free = fr ++ [k]) (hd : s.nodes[k]? = some d) (x : Value) :
    LInv { s with free := fr, nodes := s.nodes.set k (d.take [x]) } (tk ++ [⟨k, (d.life + 1) % 4294967296⟩]) (upd life k ((d.life + 1) % 4294967296)) := by
  have hk : k < s.nodes.length := (List.getElem?_eq_some_iff.1 hd).1
  have hnot : ∀ h' ∈ tk, h'.ix ≠ k := by
    intro h' hh e
    obtain ⟨d', h1, h2, _⟩ := h.hold h' hh
    rw [e] at h1
    have := h.fr k (by rw [hfr]; simp) d' h1
    rw [h2] at this
    cases this
  have hnd := h.wf.nd
  rw [hfr] at hnd
  have hkf : k ∉ fr := by
    rw [List.nodup_append] at hnd
    intro hm
    exact hnd.2.2 k hm k (by simp) rfl
  have hget : ∀ i, (s.nodes.set k (d.take [x]))[i]? = if i = k then some (d.take [x]) else s.nodes[i]? := by
    intro i
    rw [List.getElem?_set]
    by_cases e : k = i
    · subst e; simp [hk]
    · rw [if_neg e, if_neg (fun e' => e e'.symm)]
  refine ⟨⟨h.wf.room, by simpa using h.wf.len, ?_, ?_, ?_, ?_, ?_⟩, ?_, ?_, ?_, ?_, ?_, ?_⟩
  · intro i hi
    have := h.wf.free i (by rw [hfr]; simp [hi])
    simpa using this
  · have := h.wf.flen
    rw [hfr] at this
    simp at this ⊢
    omega
  · exact (List.nodup_append.1 hnd).1
  · intro d' hd'
    rcases List.mem_or_eq_of_mem_set hd' with h1 | h1
    · exact h.wf.cells d' h1
    · subst h1; rfl
  · intro d' hd'
    rcases List.mem_or_eq_of_mem_set hd' with h1 | h1
    · exact h.wf.life d' h1
    · subst h1; exact Nat.mod_lt _ (by omega)
  · intro d' hd'
    rcases List.mem_or_eq_of_mem_set hd' with h1 | h1
    · exact h.noq d' h1
    · subst h1; exact h.noq d (List.mem_of_getElem? hd)
  · intro h' hh
    simp only [hget]
    rcases List.mem_append.1 hh with h1 | h1
    · obtain ⟨d', h2, h3, h4⟩ := h.hold h' h1
      exact ⟨d', by rw [if_neg (hnot h' h1)]; exact h2, h3, h4⟩
    · simp at h1
      subst h1
      exact ⟨d.take [x], by simp, rfl, rfl⟩
  · rw [List.map_append, List.nodup_append]
    refine ⟨h.nd, by simp, ?_⟩
    intro a ha b hb
    obtain ⟨h', hh, rfl⟩ := List.mem_map.1 ha
    simp at hb
    subst hb
    exact hnot h' hh
  · have := h.cnt
    rw [hfr] at this
    simp at this ⊢
    omega
  · intro i hi d' hd'
    simp only [hget] at hd'
    have hik : i ≠ k := fun e => hkf (e ▸ hi)
    rw [if_neg hik] at hd'
    exact h.fr i (by rw [hfr]; simp [hi]) d' hd'
  · intro i
    simp only [hget, upd]
    by_cases e : i = k
    · simp [e, Nd.take]
    · simp [e, h.lf i]

theorem linv_take3 {s : Ar} {tk : List Hd} {life : Nat → Nat} (h : LInv s tk life) (hroom : s.nodes.length < s.room) (x : Value) :
    LInv { s with nodes := s.nodes ++ [nd0 [x]] } (tk ++ [⟨s.nodes.length, 1⟩]) (upd life s.nodes.length 1) := by
  have hnot : ∀ h' ∈ tk, h'.ix < s.nodes.length := by
    intro h' hh
    obtain ⟨d', h1, _⟩ := h.hold h' hh
    exact (List.getElem?_eq_some_iff.1 h1).1
  have hget : ∀ i, i < s.nodes.length → (s.nodes ++ [nd0 [x]])[i]? = s.nodes[i]? := fun i hi => List.getElem?_append_left hi
  have hlast : (s.nodes ++ [nd0 [x]])[s.nodes.length]? = some (nd0 [x]) := by simp
  refine ⟨⟨h.wf.room, by simp; omega, ?_, ?_, h.wf.nd, ?_, ?_⟩, ?_, ?_, ?_, ?_, ?_, ?_⟩
  · intro i hi
    have := h.wf.free i hi
    simp
    omega
  · have := h.wf.flen
    simp
    omega
  · intro d' hd'
    rcases List.mem_append.1 hd' with h1 | h1
    · exact h.wf.cells d' h1
    · simp at h1; subst h1; rfl
  · intro d' hd'
    rcases List.mem_append.1 hd' with h1 | h1
    · exact h.wf.life d' h1
    · simp at h1; subst h1; simp [nd0]
  · intro d' hd'
    rcases List.mem_append.1 hd' with h1 | h1
    · exact h.noq d' h1
    · simp at h1; subst h1; rfl
  · intro h' hh
    rcases List.mem_append.1 hh with h1 | h1
    · obtain ⟨d', h2, h3, h4⟩ := h.hold h' h1
      exact ⟨d', by simp only [hget _ (hnot h' h1)]; exact h2, h3, h4⟩
    · simp at h1
      subst h1
      exact ⟨nd0 [x], hlast, rfl, rfl⟩
  · rw [List.map_append, List.nodup_append]
    refine ⟨h.nd, by simp, ?_⟩
    intro a ha b hb
    obtain ⟨h', hh, rfl⟩ := List.mem_map.1 ha
    simp at hb
    subst hb
    have := hnot h' hh
    omega
  · have := h.cnt
    simp
    omega
  · intro i hi d' hd'
    simp only [hget _ (h.wf.free i hi)] at hd'
    exact h.fr i hi d' hd'
  · intro i
    simp only [upd]
    by_cases e : i = s.nodes.length
    · subst e; simp [nd0]
    · rw [if_neg e, h.lf i]
      rcases Nat.lt_or_ge i s.nodes.length with h1 | h1
      · rw [hget i h1]
      · rw [List.getElem?_eq_none h1, List.getElem?_eq_none (by simp; omega)]

theorem wout_len {l : List Hd} {h : Hd} (hm : h ∈ l) (hn : (l.map Hd.ix).Nodup) : (wout l h).length + 1 = l.length := by
  induction l with
  | nil => simp at hm
  | cons a l ih =>
    simp only [List.map_cons, List.nodup_cons] at hn
    unfold wout
    by_cases e : a = h
    · subst e
      have : ∀ x ∈ l, (x != a) = true := by
        intro x hx
        simp only [bne_iff_ne, ne_eq]
        intro ex
        subst ex
        exact hn.1 (List.mem_map_of_mem hx)
      rw [List.filter_cons_of_neg (by simp), List.filter_eq_self.2 this]
      simp
    · have hm' : h ∈ l := by
        rcases List.mem_cons.1 hm with h1 | h1
        · exact absurd h1.symm e
        · exact h1
      have := ih hm' hn.2
      rw [List.filter_cons_of_pos (by simp [e])]
      simp only [List.length_cons]
      unfold wout at this
      omega
theorem wout_sub {l : List Hd} {h x : Hd} (hx : x ∈ wout l h) : x ∈ l ∧ x ≠ h := by
  unfold wout at hx
  simpa using List.mem_filter.1 hx

theorem linv_drop {s : Ar} {tk : List Hd} {life : Nat → Nat} {hd : Hd} {d : Nd} (h : LInv s tk life) (hm : hd ∈ tk) (hn : s.nodes[hd.ix]? = some d) (z : Value) :
    LInv { s with nodes := s.nodes.set hd.ix (d.drop [z]), free := s.free ++ [hd.ix] } (wout tk hd) life := by
  have hk : hd.ix < s.nodes.length := (List.getElem?_eq_some_iff.1 hn).1
  have hnf : hd.ix ∉ s.free := by
    intro hf
    obtain ⟨d', h1, h2, _⟩ := h.hold hd hm
    have := h.fr _ hf d' h1
    rw [h2] at this
    cases this
  have hget : ∀ i, (s.nodes.set hd.ix (d.drop [z]))[i]? = if i = hd.ix then some (d.drop [z]) else s.nodes[i]? := by
    intro i
    rw [List.getElem?_set]
    by_cases e : hd.ix = i
    · subst e; simp [hk]
    · rw [if_neg e, if_neg (fun e' => e e'.symm)]
  have hlen := wout_len hm h.nd
  have hcnt := h.cnt
  have hother : ∀ x ∈ wout tk hd, x.ix ≠ hd.ix := by
    intro x hx e
    obtain ⟨hx1, hx2⟩ := wout_sub hx
    obtain ⟨d1, a1, a2, a3⟩ := h.hold x hx1
    obtain ⟨d2, b1, b2, b3⟩ := h.hold hd hm
    rw [e, b1] at a1
    injection a1 with a1
    subst a1
    apply hx2
    cases x
    cases hd
    simp_all
  refine ⟨⟨h.wf.room, by simpa using h.wf.len, ?_, ?_, ?_, ?_, ?_⟩, ?_, ?_, ?_, ?_, ?_, ?_⟩
  · intro i hi
    rcases List.mem_append.1 hi with h1 | h1
    · have := h.wf.free i h1
      simpa using this
    · simp at h1; subst h1; simpa using hk
  · simp
    omega
  · rw [List.nodup_append]
    refine ⟨h.wf.nd, by simp, ?_⟩
    intro a ha b hb e
    simp at hb
    subst hb
    subst e
    exact hnf ha
  · intro d' hd'
    rcases List.mem_or_eq_of_mem_set hd' with h1 | h1
    · exact h.wf.cells d' h1
    · subst h1; rfl
  · intro d' hd'
    rcases List.mem_or_eq_of_mem_set hd' with h1 | h1
    · exact h.wf.life d' h1
    · subst h1; exact h.wf.life d (List.mem_of_getElem? hn)
  · intro d' hd'
    rcases List.mem_or_eq_of_mem_set hd' with h1 | h1
    · exact h.noq d' h1
    · subst h1; exact h.noq d (List.mem_of_getElem? hn)
  · intro h' hh
    obtain ⟨d', h2, h3, h4⟩ := h.hold h' (wout_sub hh).1
    exact ⟨d', by simp only [hget]; rw [if_neg (hother h' hh)]; exact h2, h3, h4⟩
  · exact List.Nodup.sublist (List.Sublist.map _ (List.filter_sublist)) h.nd
  · simp
    omega
  · intro i hi d' hd'
    simp only [hget] at hd'
    by_cases e : i = hd.ix
    · rw [if_pos e] at hd'
      injection hd' with hd'
      subst hd'
      rfl
    · rw [if_neg e] at hd'
      rcases List.mem_append.1 hi with h1 | h1
      · exact h.fr i h1 d' hd'
      · simp at h1; exact absurd h1 e
  · intro i
    simp only [hget]
    rw [h.lf i]
    by_cases e : i = hd.ix
    · rw [if_pos e, e, hn]; rfl
    · rw [if_neg e]

theorem linv_full {s : Ar} {tk : List Hd} {life : Nat → Nat} (h : LInv s tk life) (hf : s.free = []) (hr : s.nodes.length = s.room) : tk.length = s.room := by
  have := h.cnt
  rw [hf] at this
  simp at this
  omega
end Lv
end Go.Proofs.Ytnhedhmffgaohaa
