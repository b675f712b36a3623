/- ArenaAll: each call of a queue of the program's and its twin of the document's: the same answer, and states that stay the same. -/
import Derived.Test.YtnhedhmffgaohaaAlC
namespace Go.Proofs.Ytnhedhmffgaohaa
open Go.RowKit
namespace Al
open Rfw (RfRep RfIs RStep Rp RfD tR tP tS)
open ArT (ArRep ArD tA tN tQ tI tH tT QSt QAt)

def PC2 (f : Nat) (args : Nat → Array Value) (e0 : Ending) (s : Ar) (Ls' : List (List Nat)) (r' : Rf) : Prop := ∀ (B : Nat → Prop) (w : World) (A D : Nat) (r : Rf), Both B w A D s r →
  Calls Try.prog f (args A) w fun e w' => e = e0 ∧ ∃ s', Pgp s' Ls' ∧ blks s' = blks s ∧ refOf s' Ls' = r' ∧ Both B w' A D s' r ∧ Only (Own B w) w w'
theorem PC.to2 {f : Nat} {args : Nat → Array Value} {e0 : Ending} {s s' : Ar} {Ls' : List (List Nat)} (h : PC f args e0 s s') (hp : Pgp s' Ls') (hb : blks s' = blks s) : PC2 f args e0 s Ls' (refOf s' Ls') := fun B w A D r hB =>
  (h B w A D r hB).mono fun _ _ ⟨h1, h2, h3⟩ => ⟨h1, s', hp, hb, rfl, h2, h3⟩
/-- A handle, or none, as it is answered. -/
def ansO (o : Option Hd) : Ending := .returned (.tuple #[.agg #[.int .u32 (hIx o), .int .u32 (hLf o)], .bool o.isSome])

section
variable {s : Ar} {Ls : List (List Nat)} {j : Nat} {q : Qu} {L : List Nat}
theorem qst (h : Pgp s Ls) (hq : s.qs[j]? = some q) (hL : Ls[j]? = some L) {w : World} {A : Nat} {vn vf : Value} (ha : ArRep w A s vn vf) : QSt w A j s vn vf q L := ⟨ha, h.wf, h.nodup, hq, h.ok j q L hq hL, h.lo hq hL⟩
theorem inn_at (h : Pgp s Ls) (hq : s.qs[j]? = some q) {i l : Nat} {d : Nd} (hd : s.nodes[i]? = some d) (hg : s.good i l = true) : (refOf s Ls).isIn j i l = decide (d.inq = some q.blk) := by
  unfold Rf.isIn
  rw [h.good, hg, ref_get s Ls (h.room hd).1, plAt_at hd]
  have := h.num hd hq
  by_cases e : d.inq = some q.blk
  · rw [this.2 e]; simp [e]
  · have e2 : ¬ qnum (blks s) d.inq = j + 1 := fun h => e (this.1 h)
    simp [e2, e]
theorem set_same {l : List Nat} (hL : Ls[j]? = some l) : Ls.set j l = Ls := by
  obtain ⟨hj, e⟩ := List.getElem?_eq_some_iff.1 hL
  rw [← e, List.set_getElem_self]
theorem other_q (h : Pgp s Ls) {i : Nat} {d : Nd} (hd : s.nodes[i]? = some d) : ∀ b, d.inq = some b → ∃ q' ∈ s.qs, q'.blk = b := fun b hb => List.mem_map.1 ((h.cok i _ (coreOf_some hd)).inq b hb).1

/-! ### Push -/
theorem push_both (h : Pgp s Ls) (hn : Ls.length ≤ 4194304) (hq : s.qs[j]? = some q) (hL : Ls[j]? = some L) {i l : Nat} (hi : i < 4294967296) : ∃ (f : Int) (Ls' : List (List Nat)) (r' : Rf), Ls'.length = Ls.length ∧
    PC2 70 (fun _ => #[.pointer (some ⟨q.blk, 0, none⟩), hv i l]) (.returned (.int .i64 f)) s Ls' r' ∧
    RC 71 (fun D => #[.pointer (some ⟨D, 0, none⟩), .int .i64 j, hv i l]) (.returned (.int .i64 f)) (refOf s Ls) r' := by
  have hr := rwf h hn
  have hgr := h.good i l
  cases hg : s.good i l with
  | false =>
    rw [hg] at hgr
    exact ⟨50, Ls, refOf s Ls, rfl, PC.to2 (fun B w A D r hb => hb.progN fun vn vf ha => ArT.push_bad A j i l s vn vf q L w (qst h hq hL ha) hi hg) h rfl, fun B w A D s0 hb => hb.refN fun p hrf => Rfw.push_bad D j i l _ p w hrf hr hi hgr⟩
  | true =>
    rw [hg] at hgr
    obtain ⟨d, hd, ht, rfl, hx, _⟩ := good_at h hg
    rcases hin : d.inq with _ | b
    · obtain ⟨hp, he⟩ := h.push hd ht hin hq hL
      have hok := h.ok j q L hq hL
      have hni : i ∉ L := not_in hok hd (by rw [hin]; simp)
      refine ⟨0, Ls.set j (L ++ [i]), _, by simp, PC.to2 (fun B w A D r hb => hb.prog fun vn vf ha => ?_) hp (blks_set (q1 := pushQ q i) hq rfl), RC.eq (fun B w A D s0 hb => hb.ref fun p hrf => Rfw.push_ok D j i d.life _ (plAt s i) L p w hrf hr hi hgr hx (by rw [plAt_at hd, hin]; rfl) hL) he⟩
      have hst := qst h hq hL ha
      obtain ⟨g, c, rfl⟩ := hst.row hd
      have post : ∀ e w', (e = Ending.returned (.int .i64 0) ∧ ArRep w' A { s with nodes := pushN s.nodes i q d, qs := s.qs.set j (pushQ q i) } (.slice (some ⟨g, 0, none⟩) s.nodes.length c) vf ∧ Only (fun x => x = q.blk ∨ x = g) w w') →
          e = Ending.returned (.int .i64 0) ∧ PStep w A s (.slice (some ⟨g, 0, none⟩) s.nodes.length c) vf { s with nodes := pushN s.nodes i q d, qs := s.qs.set j (pushQ q i) } w' := by
        rintro e w' ⟨rfl, k1, k3⟩
        refine ⟨rfl, _, vf, k1, fun k hk => ?_, k3.mono fun b _ hb => ?_⟩
        · rcases hk with hk | hk | hk | ⟨q', hq', hk⟩
          · exact .inl (.inl hk)
          · exact .inl (.inr (.inl hk))
          · exact .inl (.inr (.inr (.inl hk)))
          · rcases List.mem_or_eq_of_mem_set hq' with h1 | h1
            · exact .inl (.inr (.inr (.inr ⟨q', h1, hk⟩)))
            · subst h1
              exact .inl (.inr (.inr (.inr ⟨q, List.mem_of_getElem? hq, hk⟩)))
        · rcases hb with hb | hb
          · exact .inr (.inr (.inr ⟨q, List.mem_of_getElem? hq, hb.symm⟩))
          · exact .inr (.inl (by rw [hb]; rfl))
      rcases List.eq_nil_or_concat L with hLe | ⟨L', b, hLe⟩
      · exact (ArT.push_N A g c i j s vf q d w (hst.at hd) ht hin (by rw [hok.last, hLe]; rfl)).mono post
      · rw [List.concat_eq_append] at hLe
        obtain ⟨db, hdb, _⟩ := lk_mem hok.lk (k := b) (by rw [hLe]; simp)
        exact (ArT.push_S A g c i j b s vf q d db w (hst.at hd) ht hin (by rw [hok.last, hLe, lst_snoc]) hdb (fun e => hni (by rw [hLe, ← e]; simp))).mono post
    · refine ⟨52, Ls, refOf s Ls, rfl, PC.to2 (fun B w A D r hb => hb.progN fun vn vf ha => ?_) h rfl, fun B w A D s0 hb => hb.refN fun p hrf => Rfw.push_queue D j i d.life _ (plAt s i) p w hrf hr hi hgr hx (by rw [plAt_at hd, hin]; simp [qnum])⟩
      have hst := qst h hq hL ha
      obtain ⟨g, c, rfl⟩ := hst.row hd
      exact ArT.push_queue A g c i j b s vf q d w (hst.at hd) ht hin

/-! ### Where a handle's node stands -/
theorem here_cases (h : Pgp s Ls) (hq : s.qs[j]? = some q) (hL : Ls[j]? = some L) {i l : Nat} (hi : i < 4294967296) :
    (∃ x : Int, (x = 50 ∧ s.good i l = false ∨ x = 52 ∧ s.good i l = true) ∧ (refOf s Ls).isIn j i l = false ∧
      ∀ w A vn vf, ArRep w A s vn vf → Calls Try.prog 117 #[.pointer (some ⟨q.blk, 0, none⟩), .agg #[.int .u32 i, .int .u32 l]] w fun e w' => e = .returned (.tuple #[.pointer none, .int .i64 x]) ∧ Only Nil w w') ∨
    ∃ d L1 L2, s.good i l = true ∧ (refOf s Ls).isIn j i l = true ∧ s.nodes[i]? = some d ∧ d.taken = true ∧ d.life = l ∧ d.inq = some q.blk ∧ L = L1 ++ i :: L2 ∧ i ∉ L1 ∧ (refOf s Ls).places[i]? = some (plAt s i) := by
  cases hg : s.good i l with
  | false =>
    refine .inl ⟨50, .inl ⟨rfl, rfl⟩, ?_, fun w A vn vf ha => ArT.here_bad A j i l s vn vf q L w (qst h hq hL ha) hi hg⟩
    unfold Rf.isIn
    rw [h.good, hg]; rfl
  | true =>
    obtain ⟨d, hd, ht, rfl, hx, _⟩ := good_at h hg
    have hin := inn_at h hq hd hg
    by_cases e : d.inq = some q.blk
    · right
      have hm := (h.ok j q L hq hL).all i d hd e
      obtain ⟨L1, L2, hLe⟩ := List.append_of_mem hm
      refine ⟨d, L1, L2, rfl, by rw [hin]; simp [e], hd, ht, rfl, e, hLe, fun hm1 => ?_, hx⟩
      have := (h.ok j q L hq hL).nd
      rw [hLe, List.nodup_append] at this
      exact this.2.2 i hm1 i (by simp) rfl
    · refine .inl ⟨52, .inr ⟨rfl, rfl⟩, by rw [hin]; simp [e], fun w A vn vf ha => ?_⟩
      have hst := qst h hq hL ha
      obtain ⟨g, c, rfl⟩ := hst.row hd
      exact ArT.here_other A g c i j s vf q d w (hst.at hd) ht e (other_q h hd)

/-! ### Next -/
theorem next_both (h : Pgp s Ls) (hn : Ls.length ≤ 4194304) (hq : s.qs[j]? = some q) (hL : Ls[j]? = some L) {i l : Nat} (hi : i < 4294967296) : ∃ o : Option Hd,
    PC2 72 (fun _ => #[.pointer (some ⟨q.blk, 0, none⟩), hv i l]) (ansO o) s Ls (refOf s Ls) ∧
    RC 73 (fun D => #[.pointer (some ⟨D, 0, none⟩), .int .i64 j, hv i l]) (ansO o) (refOf s Ls) (refOf s Ls) := by
  have hr := rwf h hn
  have hj : j ≤ 4194304 := by have := (List.getElem?_eq_some_iff.1 hL).1; omega
  rcases here_cases h hq hL (l := l) hi with ⟨x, hx, hin, hh⟩ | ⟨d, L1, L2, hg, hin, hd, ht, rfl, hqb, rfl, hni, hx⟩
  · exact ⟨none, PC.to2 (fun B w A D r hb => hb.progN fun vn vf ha => ArT.next_no q.blk i l x w (hx.imp (fun h => h.1) (fun h => h.1)) (fun W ho => hh W A vn vf (ha.only ho (fun _ _ h => h)))) h rfl, fun B w A D s0 hb => hb.refN fun p hrf => Rfw.next_no D j i l _ p w hrf hr hi hj hin⟩
  · refine ⟨(wnt s.nodes L2).head?, PC.to2 (fun B w A D r hb => hb.progN fun vn vf ha => ArT.next_yes A i j s vn vf q L1 L2 d w (qst h hq hL ha) hd) h rfl, fun B w A D s0 hb => hb.refN fun p hrf => ?_⟩
    rw [← h.rall hq hL (M := L2) (fun k hk => by simp [hk])]
    exact Rfw.next_yes D j i d.life _ L1 L2 p w hrf hr hi hj hin hL hni

/-! ### Remove -/
theorem remove_both (h : Pgp s Ls) (hn : Ls.length ≤ 4194304) (hq : s.qs[j]? = some q) (hL : Ls[j]? = some L) {i l : Nat} (hi : i < 4294967296) : ∃ (f : Int) (Ls' : List (List Nat)) (r' : Rf), Ls'.length = Ls.length ∧
    PC2 74 (fun _ => #[.pointer (some ⟨q.blk, 0, none⟩), hv i l]) (.returned (.int .i64 f)) s Ls' r' ∧
    RC 75 (fun D => #[.pointer (some ⟨D, 0, none⟩), .int .i64 j, hv i l]) (.returned (.int .i64 f)) (refOf s Ls) r' := by
  have hr := rwf h hn
  have hgr := h.good i l
  have hj : j ≤ 4194304 := by have := (List.getElem?_eq_some_iff.1 hL).1; omega
  rcases here_cases h hq hL (l := l) hi with ⟨x, hx, hin, hh⟩ | ⟨d, L1, L2, hg, hin, hd, ht, rfl, hqb, rfl, hni, hx⟩
  · refine ⟨x, Ls, refOf s Ls, rfl, PC.to2 (fun B w A D r hb => hb.progN fun vn vf ha => ArT.remove_no q.blk i l x w (hx.imp (fun h => h.1) (fun h => h.1)) (fun W ho => hh W A vn vf (ha.only ho (fun _ _ h => h)))) h rfl, fun B w A D s0 hb => hb.refN fun p hrf => ?_⟩
    rcases hx with ⟨rfl, hg⟩ | ⟨rfl, hg⟩
    · exact Rfw.remove_bad D j i l _ p w hrf hr hi (hgr.trans hg)
    · exact Rfw.remove_other D j i l _ p w hrf hr hi hj (hgr.trans hg) hin
  · obtain ⟨hp, he⟩ := h.out hd hq hL
    have hok := h.ok j q _ hq hL
    obtain ⟨n1, n2, n3⟩ := ArT.nbr_of hok hd
    refine ⟨0, Ls.set j (L1 ++ L2), _, by simp, PC.to2 (fun B w A D r hb => hb.prog fun vn vf ha => ?_) hp (blks_set (q1 := outQ q d) hq rfl), RC.eq (fun B w A D s0 hb => hb.ref fun p hrf => Rfw.remove_ok D j i d.life _ (plAt s i) (L1 ++ i :: L2) p w hrf hr hi hj (hgr.trans hg) hin hx hL) he⟩
    have hst := qst h hq hL ha
    obtain ⟨g, c, rfl⟩ := hst.row hd
    refine (ArT.remove_at A g c i j s vf q d w (hst.at hd) ht hqb n1 n2 n3).mono ?_
    rintro e w' ⟨rfl, k1, k3⟩
    refine ⟨rfl, _, vf, k1, fun k hk => ?_, k3.mono fun b _ hb => ?_⟩
    · rcases hk with hk | hk | hk | ⟨q', hq', hk⟩
      · exact .inl (.inl hk)
      · exact .inl (.inr (.inl hk))
      · exact .inl (.inr (.inr (.inl hk)))
      · rcases List.mem_or_eq_of_mem_set hq' with h1 | h1
        · exact .inl (.inr (.inr (.inr ⟨q', h1, hk⟩)))
        · subst h1
          exact .inl (.inr (.inr (.inr ⟨q, List.mem_of_getElem? hq, hk⟩)))
    · rcases hb with hb | hb
      · exact .inr (.inr (.inr ⟨q, List.mem_of_getElem? hq, hb.symm⟩))
      · exact .inr (.inl (by rw [hb]; rfl))

/-! ### Mark -/
theorem mark_both (h : Pgp s Ls) (hn : Ls.length ≤ 4194304) (hq : s.qs[j]? = some q) (hL : Ls[j]? = some L) {i l : Nat} (hi : i < 4294967296) : ∃ (f : Int) (Ls' : List (List Nat)) (r' : Rf), Ls'.length = Ls.length ∧
    PC2 76 (fun _ => #[.pointer (some ⟨q.blk, 0, none⟩), hv i l]) (.returned (.int .i64 f)) s Ls' r' ∧
    RC 77 (fun D => #[.pointer (some ⟨D, 0, none⟩), .int .i64 j, hv i l]) (.returned (.int .i64 f)) (refOf s Ls) r' := by
  have hr := rwf h hn
  have hgr := h.good i l
  have hj : j ≤ 4194304 := by have := (List.getElem?_eq_some_iff.1 hL).1; omega
  rcases here_cases h hq hL (l := l) hi with ⟨x, hx, hin, hh⟩ | ⟨d, L1, L2, hg, hin, hd, ht, rfl, hqb, rfl, hni, hx⟩
  · refine ⟨x, Ls, refOf s Ls, rfl, PC.to2 (fun B w A D r hb => hb.progN fun vn vf ha => ArT.mark_no q.blk i l x w (hx.imp (fun h => h.1) (fun h => h.1)) (fun W ho => hh W A vn vf (ha.only ho (fun _ _ h => h)))) h rfl, fun B w A D s0 hb => hb.refN fun p hrf => ?_⟩
    rcases hx with ⟨rfl, hg⟩ | ⟨rfl, hg⟩
    · exact Rfw.mark_bad D j i l _ p w hrf hr hi (hgr.trans hg)
    · exact Rfw.mark_other D j i l _ p w hrf hr hi hj (hgr.trans hg) hin
  · cases hdd : d.dead with
    | true =>
      refine ⟨0, Ls, refOf s Ls, rfl, PC.to2 (fun B w A D r hb => hb.progN fun vn vf ha => ?_) h rfl, RC.eq (fun B w A D s0 hb => hb.ref fun p hrf => Rfw.mark_ok D j i d.life _ (plAt s i) p w hrf hr hi hj (hgr.trans hg) hin hx) ?_⟩
      · have hst := qst h hq hL ha
        obtain ⟨g, c, rfl⟩ := hst.row hd
        exact ArT.mark_dead A g c i j s vf q d w (hst.at hd) ht hqb hdd
      · have e : ({ plAt s i with dead := true } : Pl) = plAt s i := by
          rw [plAt_at hd, hqb, hdd]; rfl
        rw [e]
        refine rf_ext ?_ rfl rfl rfl
        obtain ⟨hi', e2⟩ := List.getElem?_eq_some_iff.1 hx
        show (refOf s Ls).places = (refOf s Ls).places.set i (plAt s i)
        conv => rhs; rw [← e2]
        rw [List.set_getElem_self]
    | false =>
      obtain ⟨hp, he⟩ := h.mark hd ht hqb hdd hq hL
      refine ⟨0, Ls, _, rfl, PC.to2 (fun B w A D r hb => hb.prog fun vn vf ha => ?_) hp (blks_set (q1 := markQ q) hq rfl), RC.eq (fun B w A D s0 hb => hb.ref fun p hrf => Rfw.mark_ok D j i d.life _ (plAt s i) p w hrf hr hi hj (hgr.trans hg) hin hx) he⟩
      have hst := qst h hq hL ha
      obtain ⟨g, c, rfl⟩ := hst.row hd
      refine (ArT.mark_live A g c i j s vf q d w (hst.at hd) ht hqb hdd).mono ?_
      rintro e w' ⟨rfl, k1, k3⟩
      refine ⟨rfl, _, vf, k1, fun k hk => ?_, k3.mono fun b _ hb => ?_⟩
      · rcases hk with hk | hk | hk | ⟨q', hq', hk⟩
        · exact .inl (.inl hk)
        · exact .inl (.inr (.inl hk))
        · exact .inl (.inr (.inr (.inl hk)))
        · rcases List.mem_or_eq_of_mem_set hq' with h1 | h1
          · exact .inl (.inr (.inr (.inr ⟨q', h1, hk⟩)))
          · subst h1
            exact .inl (.inr (.inr (.inr ⟨q, List.mem_of_getElem? hq, hk⟩)))
      · rcases hb with hb | hb
        · exact .inr (.inr (.inr ⟨q, List.mem_of_getElem? hq, hb.symm⟩))
        · exact .inr (.inl (by rw [hb]; rfl))
end
end Al
end Go.Proofs.Ytnhedhmffgaohaa
