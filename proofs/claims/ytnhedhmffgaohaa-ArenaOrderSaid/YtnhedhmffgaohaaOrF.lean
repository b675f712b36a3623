/- Each call of an arena or a queue, upon a whole state: the answer, the state that it leaves, and what of it can be seen. -/
import Derived.Test.YtnhedhmffgaohaaQuT
import Derived.Test.YtnhedhmffgaohaaWo
namespace Go.Proofs.Ytnhedhmffgaohaa
open Go.RowKit
namespace ArI

/-- An arena with a queue in which stand the places L, in memory that is made behind B. -/
structure Full (B : Nat) (w : World) (A j : Nat) (s : Ar) (vn vf : Value) (q : Qu) (L : List Nat) : Prop where
  st : QSt w A j s vn vf q L
  fr : s.fr
  vals : ∀ d ∈ s.nodes, IsV d.v
  ha : B ≤ A
  hb : B ≤ q.blk
  hn : ∀ b, vn.ownBlock = some b → B ≤ b
  hf : ∀ b, vf.ownBlock = some b → B ≤ b

/-- The blocks of an arena and its queues. -/
def Own (B : Nat) (w : World) (b : Nat) : Prop := B ≤ b ∧ ∃ t, Ty w b t ∧ (t = tA ∨ t = tN ∨ t = tI ∨ t = tQ)

section
variable {B : Nat} {w w' : World} {A j : Nat} {s : Ar} {vn vf : Value} {q : Qu} {L : List Nat}
theorem Full.own (h : Full B w A j s vn vf q L) {b : Nat} (hb : QD A q vn vf b) : Own B w b := by
  rcases hb with rfl | rfl | hb | hb
  · exact ⟨h.ha, _, blk_ty h.st.rep.a, .inl rfl⟩
  · exact ⟨h.hb, _, blk_ty (h.st.rep.q q (List.mem_of_getElem? h.st.hq)), .inr (.inr (.inr rfl))⟩
  · exact ⟨h.hn b hb, _, own_ty h.st.rep.n hb, .inr (.inl rfl)⟩
  · exact ⟨h.hf b hb, _, own_ty h.st.rep.f hb, .inr (.inr (.inl rfl))⟩
theorem Full.only (h : Full B w A j s vn vf q L) (ho : Only Nil w w') : Full B w' A j s vn vf q L := ⟨h.st.only ho, h.fr, h.vals, h.ha, h.hb, h.hn, h.hf⟩
theorem Full.lt (h : Full B w A j s vn vf q L) : B ≤ w.heap.size := by
  have := h.ha
  have := h.st.own.2.2.2.2.2.2.1
  omega
theorem fr_core {ns : List Nd} (h : s.fr) (hc : ∀ k ∈ s.free, coreOf ns k = coreOf s.nodes k) {qs : List Qu} : Ar.fr { s with nodes := ns, qs := qs } := by
  intro k hk
  obtain ⟨d, h1, h2, h3⟩ := h k hk
  obtain ⟨e, h4, h5⟩ := of_coreOf ((hc k hk).trans (coreOf_some h1))
  exact ⟨e, h4, (congrArg (fun x => x.2.2.1) h5).trans h2, (congrArg (fun x => x.2.2.2.2) h5).trans h3⟩
theorem vals_core {ns : List Nd} (h : ∀ d ∈ s.nodes, IsV d.v) (hc : ∀ k x, coreOf ns k = some x → IsV x.1 ∨ ∃ y, coreOf s.nodes k = some y ∧ x.1 = y.1) : ∀ d ∈ ns, IsV d.v := by
  intro d hd'
  obtain ⟨k, hk, rfl⟩ := List.getElem_of_mem hd'
  rcases hc k _ (coreOf_some (List.getElem?_eq_getElem hk)) with h1 | ⟨y, h1, h2⟩
  · exact h1
  · obtain ⟨e, h3, h4⟩ := of_coreOf h1
    have h5 : ns[k].v = e.v := h2.trans (congrArg (fun x => x.1) h4).symm
    rw [h5]
    exact h e (List.mem_of_getElem? h3)
theorem not_free (h : s.fr) {i : Nat} {d : Nd} (hd' : s.nodes[i]? = some d) (ht : d.taken = true) {k : Nat} (hk : k ∈ s.free) : k ≠ i := by
  rintro rfl
  obtain ⟨e, h1, h2, _⟩ := h k hk
  rw [hd'] at h1
  injection h1 with h1
  subst h1
  rw [ht] at h2
  cases h2

/-! ### Take -/
theorem Full.take_full (h : Full B w A j s vn vf q L) (hfull : s.nodes.length - s.free.length = s.room) (x : Int) :
    Calls Try.prog 11 #[.pointer (some ⟨A,0,none⟩), .int .i64 x] w fun e w' => e = .returned (.tuple #[.agg #[.int .u32 0, .int .u32 0], .int .i64 51]) ∧ Only Nil w w' := by
  have h1 := h.st.wf.len
  have h2 := h.st.wf.flen
  have h3 : 0 < s.room ∨ s.room = 0 := by omega
  refine take2 A s vn vf x w h.st.rep h.st.wf ?_ (by omega)
  apply List.eq_nil_of_length_eq_zero
  rcases h3 with h3 | h3
  · omega
  · omega
theorem Full.take_ok (h : Full B w A j s vn vf q L) (hroom : s.nodes.length - s.free.length < s.room) (x : Int) :
    Calls Try.prog 11 #[.pointer (some ⟨A,0,none⟩), .int .i64 x] w fun e w' => ∃ i l s' vn' vf' d, e = .returned (.tuple #[.agg #[.int .u32 (i : Nat), .int .u32 (l : Nat)], .int .i64 0]) ∧ Full B w' A j s' vn' vf' q L ∧
      s'.nodes[i]? = some d ∧ d.taken = true ∧ d.inq = none ∧ d.life = l ∧ s'.room = s.room ∧ s'.nodes.length + s.free.length = s.nodes.length + s'.free.length + 1 ∧ wnt s'.nodes L = wnt s.nodes L ∧ Only (Own B w) w w' := by
  have hw := h.st.wf
  have hlen := hw.len
  have hflen := hw.flen
  rcases List.eq_nil_or_concat s.free with hfr | ⟨fr, k, hfr⟩
  · have hlt : s.nodes.length < s.room := by rw [hfr] at hroom; simpa using hroom
    refine (take3 A s vn vf x w h.st.rep hw hfr hlt).mono ?_
    rintro e w' ⟨rfl, vn', hr, hvn, ho⟩
    have hL : ∀ k ∈ L, k < s.nodes.length := fun k hk => by
      obtain ⟨d, h1, _⟩ := lk_mem h.st.ok.lk hk
      exact (List.getElem?_eq_some_iff.1 h1).1
    have hw' : Ar.wf 1 { s with nodes := s.nodes ++ [nd0 [.int .i64 x]] } := by
      refine ⟨hw.room, by simp; omega, fun i hi => by rw [hfr] at hi; simp at hi, by rw [hfr]; simp, hw.nd, fun d hd => ?_, fun d hd => ?_⟩
      · rcases List.mem_append.1 hd with h1 | h1
        · exact hw.cells d h1
        · simp at h1; subst h1; rfl
      · rcases List.mem_append.1 hd with h1 | h1
        · exact hw.life d h1
        · simp at h1; subst h1; show 1 < _; omega
    refine ⟨s.nodes.length, 1, _, vn', vf, nd0 [.int .i64 x], rfl, ⟨⟨hr, hw', h.st.nodup, h.st.hq, snoc_far h.st.ok (by simp [nd0]), h.st.lo⟩, ?_, ?_, h.ha, h.hb, ?_, h.hf⟩, ?_, rfl, rfl, rfl, rfl, ?_, ?_, ?_⟩
    · intro k hk
      have hk' : k ∈ s.free := hk
      rw [hfr] at hk'
      simp at hk'
    · intro d hd
      rcases List.mem_append.1 hd with h1 | h1
      · exact h.vals d h1
      · simp at h1; subst h1; exact ⟨x, rfl⟩
    · intro b hb
      rcases hvn with h1 | h1
      · exact h.hn b (by rw [← h1]; exact hb)
      · have := h1 b hb; have := h.lt; omega
    · simp
    · simp [hfr]
    · refine wnt_congr fun k hk => ?_
      unfold coreOf
      rw [List.getElem?_append_left (hL k hk)]
    · refine ho.mono fun b _ hb => ?_
      rcases hb with hb | hb
      · exact h.own (.inl hb)
      · exact h.own (.inr (.inr (.inl hb)))
  · rw [List.concat_eq_append] at hfr
    obtain ⟨d, hd1, hdt, hdq⟩ := h.fr k (by rw [hfr]; simp)
    have hk : k < s.nodes.length := (List.getElem?_eq_some_iff.1 hd1).1
    have hnd := hw.nd
    rw [hfr, List.nodup_append] at hnd
    have hkf : k ∉ fr := fun hm => hnd.2.2 k hm k (by simp) rfl
    have hkL : k ∉ L := not_in h.st.ok hd1 (by rw [hdq]; simp)
    refine (take1 A s vn vf x k d fr w h.st.rep hw hfr hd1).mono ?_
    rintro e w' ⟨rfl, vf', hr, hvf, ho⟩
    have hcore : ∀ i, i ≠ k → coreOf (s.nodes.set k (d.take [.int .i64 x])) i = coreOf s.nodes i := fun i hi => by
      unfold coreOf; rw [List.getElem?_set_ne (fun e => hi e.symm)]
    have hw' : Ar.wf 1 { s with free := fr, nodes := s.nodes.set k (d.take [.int .i64 x]) } := by
      refine ⟨hw.room, by simpa using hlen, fun i hi => by simpa using hw.free i (by rw [hfr]; simp [hi]), ?_, hnd.1, v_set hw.cells rfl, fun e he => ?_⟩
      · rw [hfr] at hflen; simp at hflen ⊢; omega
      · rcases List.mem_or_eq_of_mem_set he with h1 | h1
        · exact hw.life e h1
        · subst h1; show (d.life + 1) % 4294967296 < _; omega
    refine ⟨k, (d.life + 1) % 4294967296, _, vn, vf', d.take [.int .i64 x], by rw [cast_mod32], ⟨⟨hr, hw', h.st.nodup, h.st.hq, set_far h.st.ok hd1 (by rw [hdq]; simp) (by show d.inq ≠ _; rw [hdq]; simp), h.st.lo⟩, ?_, ?_, h.ha, h.hb, h.hn, fun b hb => h.hf b (by rw [← hvf]; exact hb)⟩, ?_, rfl, hdq, rfl, rfl, ?_, ?_, ?_⟩
    · intro i hi
      have hi' : i ∈ fr := hi
      obtain ⟨e, h1, h2, h3⟩ := h.fr i (by rw [hfr]; simp [hi'])
      exact ⟨e, by show (s.nodes.set k _)[i]? = _; rw [List.getElem?_set_ne (fun ee : k = i => hkf (by rw [ee]; exact hi'))]; exact h1, h2, h3⟩
    · intro e he
      rcases List.mem_or_eq_of_mem_set he with h1 | h1
      · exact h.vals e h1
      · subst h1; exact ⟨x, rfl⟩
    · exact List.getElem?_set_self hk
    · rw [hfr]; simp; omega
    · exact wnt_congr fun i hi => hcore i (fun e => hkL (e ▸ hi))
    · refine ho.mono fun b _ hb => ?_
      rcases hb with hb | hb
      · exact h.own (.inl hb)
      · exact h.own (.inr (.inr (.inl hb)))

/-! ### Push -/
theorem Full.push (h : Full B w A j s vn vf q L) {i : Nat} {d : Nd} (hd' : s.nodes[i]? = some d) (ht : d.taken = true) (hin : d.inq = none) :
    Calls Try.prog 19 #[.pointer (some ⟨q.blk, 0, none⟩), .agg #[.int .u32 i, .int .u32 d.life]] w fun e w' => e = .returned (.int .i64 0) ∧ ∃ s', Full B w' A j s' vn vf (pushQ q i) (L ++ [i]) ∧
      s'.room = s.room ∧ s'.free = s.free ∧ s'.nodes.length = s.nodes.length ∧ wnt s'.nodes (L ++ [i]) = wnt s.nodes L ++ [⟨i, d.life⟩] ∧ Only (Own B w) w w' := by
  obtain ⟨g, c, rfl⟩ := h.st.row hd'
  have hi : i < s.nodes.length := (List.getElem?_eq_some_iff.1 hd').1
  have hni : i ∉ L := not_in h.st.ok hd' (by rw [hin]; simp)
  have hok := push_ok h.st.ok hd' hin ht
  have hqa := h.st.at hd'
  have hcore := pushN_core s.nodes i q d hi
  have hlo : (L ++ [i]).length ≤ 65536 := by
    have h1 := nodup_le (n := s.nodes.length) hok.nd (fun k hk => by
      rcases List.mem_append.1 hk with h1 | h1
      · obtain ⟨e, h2, _⟩ := lk_mem h.st.ok.lk h1
        exact (List.getElem?_eq_some_iff.1 h2).1
      · simp at h1; subst h1; exact hi)
    have := h.st.wf.len
    have := h.st.wf.room
    omega
  have post : ∀ e w', (e = Ending.returned (.int .i64 0) ∧ ArRep w' A { s with nodes := pushN s.nodes i q d, qs := s.qs.set j (pushQ q i) } (.slice (some ⟨g, 0, none⟩) s.nodes.length c) vf ∧ Only (fun x => x = q.blk ∨ x = g) w w') →
      e = .returned (.int .i64 0) ∧ ∃ s', Full B w' A j s' (.slice (some ⟨g, 0, none⟩) s.nodes.length c) vf (pushQ q i) (L ++ [i]) ∧ s'.room = s.room ∧ s'.free = s.free ∧ s'.nodes.length = s.nodes.length ∧ wnt s'.nodes (L ++ [i]) = wnt s.nodes L ++ [⟨i, d.life⟩] ∧ Only (Own B w) w w' := by
    rintro e w' ⟨rfl, hr, ho⟩
    refine ⟨rfl, _, ⟨⟨hr, wf_push h.st.wf hd', by show ((s.qs.set j _).map Qu.blk).Nodup; rw [blk_map_set (q' := pushQ q i) h.st.hq rfl]; exact h.st.nodup, List.getElem?_set_self (List.getElem?_eq_some_iff.1 h.st.hq).1, hok, hlo⟩, ?_, ?_, h.ha, h.hb, h.hn, h.hf⟩, rfl, rfl, pushN_length _ _ _ _, ?_, ?_⟩
    · refine fr_core h.fr fun k hk => ?_
      rw [hcore, if_neg (not_free h.fr hd' ht hk)]
    · refine vals_core h.vals fun k x hx => ?_
      rw [hcore] at hx
      split at hx
      · injection hx with hx
        subst hx
        exact .inl (h.vals d (List.mem_of_getElem? hd'))
      · exact .inr ⟨x, hx, rfl⟩
    · show wnt (pushN s.nodes i q d) (L ++ [i]) = _
      rw [wnt_append, wnt_congr (ns' := pushN s.nodes i q d) (ns := s.nodes) (fun k hk => by rw [hcore, if_neg (fun ee : k = i => hni (by rw [← ee]; exact hk))])]
      congr 1
      unfold wnt wOf
      rw [List.filterMap_cons, hcore, if_pos rfl]; rfl
    · refine ho.mono fun b _ hb => ?_
      rcases hb with hb | hb
      · exact h.own (.inr (.inl hb))
      · exact h.own (.inr (.inr (.inl (by rw [hb]; rfl))))
  rcases List.eq_nil_or_concat L with hL | ⟨L', b, hL⟩
  · exact (push_N A g c i j s vf q d w hqa ht hin (by rw [h.st.ok.last, hL]; rfl)).mono post
  · rw [List.concat_eq_append] at hL
    obtain ⟨db, hdb, _⟩ := lk_mem h.st.ok.lk (k := b) (by rw [hL]; simp)
    exact (push_S A g c i j b s vf q d db w hqa ht hin (by rw [h.st.ok.last, hL, lst_snoc]) hdb (fun e => hni (by rw [hL, ← e]; simp))).mono post

/-! ### Mark -/
theorem Full.mark {L1 L2 : List Nat} {i : Nat} {d : Nd} (h : Full B w A j s vn vf q (L1 ++ i :: L2)) (hd' : s.nodes[i]? = some d) (hdd : d.dead = false) :
    Calls Try.prog 20 #[.pointer (some ⟨q.blk, 0, none⟩), .agg #[.int .u32 i, .int .u32 d.life]] w fun e w' => e = .returned (.int .i64 0) ∧ ∃ s', Full B w' A j s' vn vf (markQ q) (L1 ++ i :: L2) ∧
      s'.room = s.room ∧ s'.free = s.free ∧ s'.nodes.length = s.nodes.length ∧ wnt s'.nodes (L1 ++ i :: L2) = wout (wnt s.nodes (L1 ++ i :: L2)) ⟨i, d.life⟩ ∧ Only (Own B w) w w' := by
  obtain ⟨g, c, rfl⟩ := h.st.row hd'
  have hi : i < s.nodes.length := (List.getElem?_eq_some_iff.1 hd').1
  obtain ⟨ht, hin, _, _⟩ := lk_at h.st.ok.lk hd'
  have hcore := markN_core s.nodes i d hi
  refine (mark_live A g c i j s vf q d w (h.st.at hd') ht hin hdd).mono ?_
  rintro e w' ⟨rfl, hr, ho⟩
  refine ⟨rfl, _, ⟨⟨hr, wf_mark h.st.wf hd', by show ((s.qs.set j _).map Qu.blk).Nodup; rw [blk_map_set (q' := markQ q) h.st.hq rfl]; exact h.st.nodup, List.getElem?_set_self (List.getElem?_eq_some_iff.1 h.st.hq).1, mark_ok h.st.ok hd' (by simp) hdd, h.st.lo⟩, ?_, ?_, h.ha, h.hb, h.hn, h.hf⟩, rfl, rfl, markN_length _ _ _, ?_, ?_⟩
  · refine fr_core h.fr fun k hk => ?_
    rw [hcore, if_neg (not_free h.fr hd' ht hk)]
  · refine vals_core h.vals fun k x hx => ?_
    rw [hcore] at hx
    split at hx
    · injection hx with hx
      subst hx
      exact .inl (h.vals d (List.mem_of_getElem? hd'))
    · exact .inr ⟨x, hx, rfl⟩
  · exact wout_mark (ns := s.nodes) (ns' := markN s.nodes i d) h.st.ok.nd hd' hdd (List.getElem?_set_self hi) rfl (fun k hk => by rw [hcore, if_neg hk])
  · refine ho.mono fun b _ hb => ?_
    rcases hb with hb | hb
    · exact h.own (.inr (.inl hb))
    · exact h.own (.inr (.inr (.inl (by rw [hb]; rfl))))

/-! ### Remove -/
theorem Full.of_out {B : Nat} {w w' : World} {A j : Nat} {s : Ar} {vn vf vn' vf' : Value} {q : Qu} {L1 L2 : List Nat} {i : Nat} {d : Nd} (hst : QSt w A j s vn vf q (L1 ++ i :: L2)) (hfr : s.fr) (hv : ∀ d ∈ s.nodes, IsV d.v) (hd' : s.nodes[i]? = some d) (ha : B ≤ A) (hb : B ≤ q.blk)
    (hr : ArRep w' A { s with nodes := outN s.nodes i d, qs := s.qs.set j (outQ q d) } vn' vf') (hn : ∀ b, vn'.ownBlock = some b → B ≤ b) (hf : ∀ b, vf'.ownBlock = some b → B ≤ b) :
    Full B w' A j { s with nodes := outN s.nodes i d, qs := s.qs.set j (outQ q d) } vn' vf' (outQ q d) (L1 ++ L2) := by
  have hi : i < s.nodes.length := (List.getElem?_eq_some_iff.1 hd').1
  obtain ⟨ht, hin, _, _⟩ := lk_at hst.ok.lk hd'
  have hcore := outN_core s.nodes i d hi
  refine ⟨out_st hst hd' hr, ?_, ?_, ha, hb, hn, hf⟩
  · refine fr_core hfr fun k hk => ?_
    rw [hcore, if_neg (not_free hfr hd' ht hk)]
  · refine vals_core hv fun k x hx => ?_
    rw [hcore] at hx
    split at hx
    · injection hx with hx
      subst hx
      exact .inl (hv d (List.mem_of_getElem? hd'))
    · exact .inr ⟨x, hx, rfl⟩
theorem Full.remove {L1 L2 : List Nat} {i : Nat} {d : Nd} (h : Full B w A j s vn vf q (L1 ++ i :: L2)) (hd' : s.nodes[i]? = some d) (hdd : d.dead = false) :
    Calls Try.prog 21 #[.pointer (some ⟨q.blk, 0, none⟩), .agg #[.int .u32 i, .int .u32 d.life]] w fun e w' => e = .returned (.int .i64 0) ∧ ∃ s', Full B w' A j s' vn vf (outQ q d) (L1 ++ L2) ∧
      s'.room = s.room ∧ s'.free = s.free ∧ s'.nodes.length = s.nodes.length ∧ wnt s'.nodes (L1 ++ L2) = wout (wnt s.nodes (L1 ++ i :: L2)) ⟨i, d.life⟩ ∧ Only (Own B w) w w' := by
  obtain ⟨g, c, rfl⟩ := h.st.row hd'
  have hi : i < s.nodes.length := (List.getElem?_eq_some_iff.1 hd').1
  obtain ⟨ht, hin, _, _⟩ := lk_at h.st.ok.lk hd'
  obtain ⟨n1, n2, n3⟩ := nbr_of h.st.ok hd'
  have hcore := outN_core s.nodes i d hi
  refine (remove_at A g c i j s vf q d w (h.st.at hd') ht hin n1 n2 n3).mono ?_
  rintro e w' ⟨rfl, hr, ho⟩
  refine ⟨rfl, _, Full.of_out h.st h.fr h.vals hd' h.ha h.hb hr h.hn h.hf, rfl, rfl, outN_length _ _ _, ?_, ?_⟩
  · exact wout_at h.st.ok.nd hd' hdd (fun k hk => by rw [hcore, if_neg hk])
  · refine ho.mono fun b _ hb => ?_
    rcases hb with hb | hb
    · exact h.own (.inr (.inl hb))
    · exact h.own (.inr (.inr (.inl (by rw [hb]; rfl))))

/-! ### Pop, Sweep -/
theorem Full.of_swept {w' : World} {s' : Ar} {vf' : Value} {q' : Qu} {P M : List Nat} (h : Full B w A j s vn vf q (P ++ M)) (hs : Swept 1 [.int .i64 0] j s s' q q' P M) (hr : ArRep w' A s' vn vf') (hf : ∀ b, vf'.ownBlock = some b → B ≤ b) :
    Full B w' A j s' vn vf' q' (P.filter (alive s.nodes) ++ M) :=
  ⟨swept_st hs hr h.st.hq h.st.nodup h.st.lo, hs.fr, fun d hd => by
    rcases hs.v hd with e | ⟨d0, h0, e⟩
    · rw [e]; exact ⟨0, rfl⟩
    · rw [e]; exact h.vals d0 h0, h.ha, by rw [hs.blk]; exact h.hb, h.hn, hf⟩
theorem Full.sweep (h : Full B w A j s vn vf q L) :
    Calls Try.prog 24 #[.pointer (some ⟨q.blk, 0, none⟩)] w fun e w' => e = .returned (.int .i64 q.dead) ∧ ∃ s' vf' q' L', Full B w' A j s' vn vf' q' L' ∧ q'.blk = q.blk ∧ q'.dead = 0 ∧
      s'.room = s.room ∧ (s'.free.length : Int) = s.free.length + q.dead ∧ (L'.length : Int) = L.length - q.dead ∧ s'.nodes.length = s.nodes.length ∧ wnt s'.nodes L' = wnt s.nodes L ∧ Only (Own B w) w w' := by
  refine (sweep_any A j s vn vf q L w h.st h.fr h.vals).mono ?_
  rintro e w' ⟨rfl, s', vf', q', hs, hr, hv, ho⟩
  have hdead := h.st.ok.dead
  have hnum := wnt_len h.st.ok
  have hF : Full B w' A j s' vn vf' q' (L.filter (alive s.nodes) ++ []) := Full.of_swept (P := L) (M := []) (by rw [List.append_nil]; exact h) hs hr fun b hb => by
    rcases hv b hb with h1 | h1
    · exact h.hf b h1
    · have := h.lt; omega
  have hq0 : q'.dead = 0 := by
    rw [hF.st.ok.dead]
    have : (L.filter (alive s.nodes) ++ []).filter (fun i => !alive s'.nodes i) = [] := by
      rw [List.append_nil, List.filter_filter]
      refine List.filter_eq_nil_iff.2 fun k _ => ?_
      rw [hs.alive]
      cases alive s.nodes k <;> simp
    rw [this]; rfl
  have hlen := h.st.ok.live
  refine ⟨rfl, s', vf', q', _, hF, hs.blk, hq0, hs.room, ?_, ?_, hs.len, ?_, ?_⟩
  · rw [hs.free, hdead]; simp
  · rw [List.append_nil]; omega
  · have := hs.wnt
    rw [List.append_nil] at this ⊢
    rw [List.append_nil] at this
    exact this
  · exact ho.mono fun b _ hb => h.own hb
theorem Full.pop_no (h : Full B w A j s vn vf q L) (hw : wnt s.nodes L = []) :
    Calls Try.prog 22 #[.pointer (some ⟨q.blk, 0, none⟩)] w fun e w' => e = .returned (.tuple #[.agg #[.int .u32 0, .int .u32 0], .bool false]) ∧ Only Nil w w' := by
  refine pop_none A j s vn vf q L w h.st fun k hk => ?_
  obtain ⟨d, h1, _⟩ := lk_mem h.st.ok.lk hk
  cases ha : alive s.nodes k with
  | false => rfl
  | true =>
    exfalso
    have h2 : (wOf s.nodes k).isSome = true := by
      rw [wOf_at h1]
      rw [alive_at h1] at ha
      cases hd : d.dead
      · rfl
      · rw [hd] at ha; simp at ha
    obtain ⟨x, hx⟩ := Option.isSome_iff_exists.1 h2
    have : x ∈ wnt s.nodes L := List.mem_filterMap.2 ⟨k, hk, hx⟩
    rw [hw] at this
    simp at this
theorem Full.pop_yes (h : Full B w A j s vn vf q L) {x : Hd} {r : List Hd} (hw : wnt s.nodes L = x :: r) :
    Calls Try.prog 22 #[.pointer (some ⟨q.blk, 0, none⟩)] w fun e w' => e = .returned (.tuple #[.agg #[.int .u32 x.ix, .int .u32 x.life], .bool true]) ∧ ∃ s' vf' q' L', Full B w' A j s' vn vf' q' L' ∧ q'.blk = q.blk ∧
      s'.room = s.room ∧ s'.free.length + L'.length + 1 = s.free.length + L.length ∧ s'.nodes.length = s.nodes.length ∧ wnt s'.nodes L' = r ∧ Only (Own B w) w w' := by
  rcases firstLive_split s.nodes L with ⟨_, h1⟩ | ⟨L1, i, L2, rfl, h1, h2, h3⟩
  · rw [wnt_dead h1] at hw; cases hw
  obtain ⟨d0, hd0, _⟩ := lk_mem h.st.ok.lk (k := i) (by simp)
  have hdd0 : d0.dead = false := by rw [alive_at hd0] at h2; simpa using h2
  rw [wnt_append, wnt_dead h1, List.nil_append, wnt_one hd0 hdd0] at hw
  injection hw with hx hr'
  subst hx
  refine (pop_some A j i s vn vf q L1 L2 w h.st h.fr h.vals h1 h2).mono ?_
  rintro e w' ⟨s1, vf', q1, d, rfl, hs, hd1, hr, hv, ho⟩
  have hiL : i ∉ L1 := fun hm => by
    have := h.st.ok.nd
    rw [List.nodup_append] at this
    exact this.2.2 i hm i (by simp) rfl
  have hci := hs.core i
  rw [if_neg (fun hh => hiL hh.1), coreOf_some hd1, coreOf_some hd0] at hci
  injection hci with hci
  have hlife : d.life = d0.life := congrArg (fun x => x.2.1) hci
  have hdd : d.dead = false := (congrArg (fun x => x.2.2.2.1) hci).trans hdd0
  have hfl : L1.filter (alive s.nodes) = [] := List.filter_eq_nil_iff.2 fun k hk => by rw [h1 k hk]; simp
  have hfl' : L1.filter (fun k => !alive s.nodes k) = L1 := List.filter_eq_self.2 fun k hk => by rw [h1 k hk]; rfl
  have hi1 : i < s1.nodes.length := (List.getElem?_eq_some_iff.1 hd1).1
  have hcore := outN_core s1.nodes i d hi1
  have hok1 := hs.ok
  rw [hfl] at hok1
  have hout := out_ok hok1 hd1
  obtain ⟨ht1, _, _, _⟩ := lk_at hok1.lk hd1
  have hfv : ∀ b, vf'.ownBlock = some b → B ≤ b := fun b hb => by
    rcases hv b hb with e | e
    · exact h.hf b e
    · have := h.lt; omega
  have hvals1 : ∀ d ∈ s1.nodes, IsV d.v := fun d hd => by
    rcases hs.v hd with e | ⟨d0, h0, e⟩
    · rw [e]; exact ⟨0, rfl⟩
    · rw [e]; exact h.vals d0 h0
  have hlo := h.st.lo
  simp only [List.length_append, List.length_cons] at hlo
  have hF : Full B w' A j { s1 with nodes := outN s1.nodes i d, qs := s1.qs.set j (outQ q1 d) } vn vf' (outQ q1 d) ([] ++ L2) := by
    refine ⟨⟨hr, wf_out hs.wf hd1, ?_, List.getElem?_set_self (List.getElem?_eq_some_iff.1 hs.hq).1, hout, by simp; omega⟩, ?_, ?_, h.ha, ?_, h.hn, hfv⟩
    · show ((s1.qs.set j _).map Qu.blk).Nodup
      rw [blk_map_set (q' := outQ q1 d) hs.hq rfl, hs.qs, blk_map_set h.st.hq hs.blk]
      exact h.st.nodup
    · refine fr_core hs.fr fun k hk => ?_
      rw [hcore, if_neg (not_free hs.fr hd1 ht1 hk)]
    · refine vals_core hvals1 fun k x hx => ?_
      rw [hcore] at hx
      split at hx
      · injection hx with hx
        subst hx
        exact .inl (hvals1 d (List.mem_of_getElem? hd1))
      · exact .inr ⟨x, hx, rfl⟩
    · show B ≤ q1.blk
      rw [hs.blk]; exact h.hb
  refine ⟨by rw [hlife], _, vf', _, _, hF, hs.blk, hs.room, ?_, ?_, ?_, ?_⟩
  · show s1.free.length + _ + 1 = _
    rw [hs.free, hfl']
    simp
    omega
  · show (outN s1.nodes i d).length = _
    rw [outN_length, hs.len]
  · show wnt (outN s1.nodes i d) ([] ++ L2) = _
    have hnd := hok1.nd
    rw [wout_at (ns := s1.nodes) (L1 := []) hnd hd1 hdd (fun k hk => by rw [hcore, if_neg hk])]
    have h4 := hs.wnt
    rw [hfl, wnt_append s.nodes, wnt_dead h1, List.nil_append, wnt_one hd0 hdd0] at h4
    rw [List.nil_append] at h4 ⊢
    rw [h4, hr', hlife]
    unfold wout
    rw [List.filter_cons]
    simp only [bne_self_eq_false, Bool.false_eq_true, if_false]
    refine List.filter_eq_self.2 fun y hy => ?_
    rw [← hr'] at hy
    have h5 := (wnt_mem hy).1
    have h6 : i ∉ L2 := by
      have := h.st.ok.nd
      rw [List.nodup_append, List.nodup_cons] at this
      exact this.2.1.1
    simp
    intro e
    subst e
    exact h6 h5
  · exact ho.mono fun b _ hb => h.own hb
end
end ArI
end Go.Proofs.Ytnhedhmffgaohaa
