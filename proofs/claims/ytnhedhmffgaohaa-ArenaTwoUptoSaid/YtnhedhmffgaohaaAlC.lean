/- ArenaAll: each call of the program's arena and its twin of the document's: the same answer, and states that stay the same (nodes). -/
import Derived.Test.YtnhedhmffgaohaaAlB
namespace Go.Proofs.Ytnhedhmffgaohaa
open Go.RowKit
namespace Al
open Rfw (RfRep RfIs RStep Rp RfD tR tP tS)
open ArT (ArRep ArD tA tN tQ tI tH tT)

def PC (f : Nat) (args : Nat → Array Value) (e0 : Ending) (s s' : Ar) : Prop := ∀ (B : Nat → Prop) (w : World) (A D : Nat) (r : Rf), Both B w A D s r → Calls Try.prog f (args A) w fun e w' => e = e0 ∧ Both B w' A D s' r ∧ Only (Own B w) w w'
def RC (f : Nat) (args : Nat → Array Value) (e0 : Ending) (r r' : Rf) : Prop := ∀ (B : Nat → Prop) (w : World) (A D : Nat) (s : Ar), Both B w A D s r → Calls Try.prog f (args D) w fun e w' => e = e0 ∧ Both B w' A D s r' ∧ Only (Own B w) w w'
def hv (i l : Nat) : Value := .agg #[.int .u32 (i : Int), .int .u32 (l : Int)]
def thv (n : Int) : Value := .agg #[.int .i64 n, .string (thS n)]
theorem RC.eq {f : Nat} {args : Nat → Array Value} {e0 : Ending} {r r' r'' : Rf} (h : RC f args e0 r r') (he : r'' = r') : RC f args e0 r r'' := he ▸ h

section
variable {s : Ar} {Ls : List (List Nat)}
/-! ### Take -/
theorem take_both (h : Pgp s Ls) (hL : Ls.length ≤ 4194304) {n : Int} (hn : I64 n) : ∃ (x l : Nat) (f : Int) (s' : Ar), Pgp s' Ls ∧ s'.qs = s.qs ∧ x < 4294967296 ∧ l < 4294967296 ∧
    PC 61 (fun A => #[.pointer (some ⟨A, 0, none⟩), thv n]) (.returned (.tuple #[hv x l, .int .i64 f])) s s' ∧
    RC 34 (fun D => #[.pointer (some ⟨D, 0, none⟩), .int .i64 n]) (.returned (.tuple #[hv x l, .int .i64 f])) (refOf s Ls) (refOf s' Ls) := by
  have hw := h.wf
  have hr := rwf h hL
  rcases List.eq_nil_or_concat s.free with hfr | ⟨fr, k, hfr⟩
  · by_cases hlt : s.nodes.length < s.room
    · obtain ⟨hp, he⟩ := h.take2 hfr hlt hn
      have hx := ref_get s Ls hlt
      rw [plAt_no (Nat.le_refl _)] at hx
      refine ⟨s.nodes.length, 1, 0, _, hp, rfl, by have := hw.room; omega, by omega, fun B w A D r hb => hb.prog fun vn vf ha => ?_, fun B w A D s0 hb => ?_⟩
      · refine (ArT.take3 A s vn vf n (thS n) w ha hw hfr hlt).mono ?_
        rintro e w' ⟨rfl, vn', k1, k2, k3⟩
        refine ⟨rfl, vn', vf, k1, fun k hk => ?_, k3.mono fun b _ hb => hb.elim .inl (fun e => .inr (.inl e))⟩
        rcases hk with hk | hk | hk | hk
        · exact .inl (.inl hk)
        · rcases k2 with e | e
          · exact .inl (.inr (.inl (by rw [← e]; exact hk)))
          · exact .inr (e k hk)
        · exact .inl (.inr (.inr (.inl hk)))
        · exact .inl (.inr (.inr (.inr hk)))
      · refine hb.ref fun p hrf => ?_
        rw [he]
        refine (Rfw.take_new D n (refOf s Ls) pl0 p w hrf hr hfr hx).mono ?_
        rintro e w' ⟨rfl, hs⟩
        exact ⟨rfl, hs⟩
    · have hfull : s.nodes.length = s.room := by have := hw.len; omega
      refine ⟨0, 0, 51, s, h, rfl, by omega, by omega, fun B w A D r hb => hb.progN fun vn vf ha => ?_, fun B w A D s0 hb => hb.refN fun p hrf => ?_⟩
      · exact ArT.take2 A s vn vf n (thS n) w ha hw hfr hfull
      · exact Rfw.take_full D n (refOf s Ls) p w hrf hr hfr (by rw [ref_len]; exact Nat.le_of_eq hfull.symm)
  · rw [List.concat_eq_append] at hfr
    obtain ⟨d, hd, hdt, hdq⟩ := h.fr k (by rw [hfr]; simp)
    obtain ⟨hp, he⟩ := h.take1 hfr hd hn
    have hroom := h.room hd
    have hx := ref_get s Ls hroom.1
    have hl : (plAt s k).life = d.life := by rw [plAt_at hd]
    have hc : (((d.life + 1) % 4294967296 : Nat) : Int) = ((d.life : Int) + 1) % 4294967296 := by omega
    refine ⟨k, (d.life + 1) % 4294967296, 0, _, hp, rfl, by omega, by omega, fun B w A D r hb => hb.prog fun vn vf ha => ?_, fun B w A D s0 hb => ?_⟩
    · refine (ArT.take1 A s vn vf n (thS n) k d fr w ha hw hfr hd).mono ?_
      rintro e w' ⟨rfl, vf', k1, k2, k3⟩
      refine ⟨rfl, vn, vf', k1, fun k hk => ?_, k3.mono fun b _ hb => hb.elim .inl (fun e => .inr (.inl e))⟩
      rcases hk with hk | hk | hk | hk
      · exact .inl (.inl hk)
      · exact .inl (.inr (.inl hk))
      · exact .inl (.inr (.inr (.inl (by rw [← k2]; exact hk))))
      · exact .inl (.inr (.inr (.inr hk)))
    · refine hb.ref fun p hrf => ?_
      rw [he, ← hl]
      refine (Rfw.take_old D k n fr (refOf s Ls) (plAt s k) p w hrf hr hfr hx).mono ?_
      rintro e w' ⟨rfl, hs⟩
      exact ⟨by unfold hv; rw [hl, hc], hs⟩

/-! ### A handle that is good -/
theorem good_at (h : Pgp s Ls) {i l : Nat} (hg : s.good i l = true) : ∃ d, s.nodes[i]? = some d ∧ d.taken = true ∧ d.life = l ∧ (refOf s Ls).places[i]? = some (plAt s i) ∧ i < 65536 := by
  obtain ⟨d, h1, h2, h3⟩ := ArT.good_split hg
  have := h.room h1
  exact ⟨d, h1, h2, h3, ref_get s Ls this.1, this.2⟩
theorem row_at {w : World} {A i : Nat} {vn vf : Value} {d : Nd} (ha : ArRep w A s vn vf) (hd : s.nodes[i]? = some d) : ∃ g c, vn = .slice (some ⟨g, 0, none⟩) s.nodes.length c := by
  have hi : i < s.nodes.length := (List.getElem?_eq_some_iff.1 hd).1
  obtain ⟨g, c, e, _⟩ := ha.row (by omega)
  exact ⟨g, c, e⟩

/-! ### Drop -/
theorem drop_both (h : Pgp s Ls) (hL : Ls.length ≤ 4194304) {i l : Nat} (hi : i < 4294967296) : ∃ (f : Int) (s' : Ar), Pgp s' Ls ∧ s'.qs = s.qs ∧
    PC 63 (fun A => #[.pointer (some ⟨A, 0, none⟩), hv i l]) (.returned (.int .i64 f)) s s' ∧
    RC 64 (fun D => #[.pointer (some ⟨D, 0, none⟩), hv i l]) (.returned (.int .i64 f)) (refOf s Ls) (refOf s' Ls) := by
  have hw := h.wf
  have hr := rwf h hL
  have hgr := h.good i l
  cases hg : s.good i l with
  | false =>
    rw [hg] at hgr
    exact ⟨50, s, h, rfl, fun B w A D r hb => hb.progN fun vn vf ha => ArT.drop_bad A i l s vn vf w ha hw hi hg, fun B w A D s0 hb => hb.refN fun p hrf => Rfw.drop_bad D i l _ p w hrf hr hi hgr⟩
  | true =>
    rw [hg] at hgr
    obtain ⟨d, hd, ht, rfl, hx, _⟩ := good_at h hg
    rcases hq : d.inq with _ | b
    · obtain ⟨hp, he⟩ := h.drop hd ht hq
      refine ⟨0, _, hp, rfl, fun B w A D r hb => hb.prog fun vn vf ha => ?_, RC.eq (fun B w A D s0 hb => hb.ref fun p hrf => Rfw.drop_ok D i d.life _ (plAt s i) p w hrf hr hi hgr hx (by rw [plAt_at hd, hq]; rfl)) he⟩
      obtain ⟨g, c, rfl⟩ := row_at ha hd
      refine (ArT.drop_ok A g c i s vf d w ha hw hd ht hq).mono ?_
      rintro e w' ⟨rfl, vf', k1, k2, k3⟩
      refine ⟨rfl, _, vf', k1, fun k hk => ?_, k3.mono fun b _ hb => ?_⟩
      · rcases hk with hk | hk | hk | hk
        · exact .inl (.inl hk)
        · exact .inl (.inr (.inl hk))
        · rcases k2 with e | e
          · exact .inl (.inr (.inr (.inl (by rw [← e]; exact hk))))
          · exact .inr (e k hk)
        · exact .inl (.inr (.inr (.inr hk)))
      · rcases hb with hb | hb | hb
        · exact .inl hb
        · exact .inr (.inl (by rw [hb]; rfl))
        · exact .inr (.inr (.inl hb))
    · refine ⟨52, s, h, rfl, fun B w A D r hb => hb.progN fun vn vf ha => ?_, fun B w A D s0 hb => hb.refN fun p hrf => Rfw.drop_queue D i d.life _ (plAt s i) p w hrf hr hi hgr hx (by rw [plAt_at hd, hq]; simp [qnum])⟩
      obtain ⟨g, c, rfl⟩ := row_at ha hd
      exact ArT.drop_queue A g c i b s vf d w ha hw hd ht hq

/-! ### Set -/
theorem set_both (h : Pgp s Ls) (hL : Ls.length ≤ 4194304) {i l : Nat} {n : Int} (hi : i < 4294967296) (hn : I64 n) : ∃ (f : Int) (s' : Ar), Pgp s' Ls ∧ s'.qs = s.qs ∧
    PC 65 (fun A => #[.pointer (some ⟨A, 0, none⟩), hv i l, thv n]) (.returned (.int .i64 f)) s s' ∧
    RC 66 (fun D => #[.pointer (some ⟨D, 0, none⟩), hv i l, .int .i64 n]) (.returned (.int .i64 f)) (refOf s Ls) (refOf s' Ls) := by
  have hw := h.wf
  have hr := rwf h hL
  have hgr := h.good i l
  cases hg : s.good i l with
  | false =>
    rw [hg] at hgr
    exact ⟨50, s, h, rfl, fun B w A D r hb => hb.progN fun vn vf ha => ArT.set_bad A i l n (thS n) s vn vf w ha hw hi hg, fun B w A D s0 hb => hb.refN fun p hrf => Rfw.set_bad D i l n _ p w hrf hr hi hgr⟩
  | true =>
    rw [hg] at hgr
    obtain ⟨d, hd, ht, rfl, hx, _⟩ := good_at h hg
    obtain ⟨hp, he⟩ := h.setv hd ht hn
    refine ⟨0, _, hp, rfl, fun B w A D r hb => hb.prog fun vn vf ha => ?_, RC.eq (fun B w A D s0 hb => hb.ref fun p hrf => Rfw.set_ok D i d.life n _ (plAt s i) p w hrf hr hi hgr hx) he⟩
    obtain ⟨g, c, rfl⟩ := row_at ha hd
    refine (ArT.set_ok A g c i n (thS n) s vf d w ha hw hd ht).mono ?_
    rintro e w' ⟨rfl, k1, k3⟩
    exact ⟨rfl, _, vf, k1, fun k hk => .inl hk, k3.mono fun b _ hb => .inr (.inl (by rw [hb]; rfl))⟩

/-! ### Get -/
theorem get_both (h : Pgp s Ls) (hL : Ls.length ≤ 4194304) {i l : Nat} (hi : i < 4294967296) :
    (PC 69 (fun A => #[.pointer (some ⟨A, 0, none⟩), hv i l]) (.returned (.tuple #[.agg #[.int .i64 0, .string ArT.zstr], .int .i64 50])) s s ∧
      RC 35 (fun D => #[.pointer (some ⟨D, 0, none⟩), hv i l]) (.returned (.tuple #[.int .i64 0, .int .i64 50])) (refOf s Ls) (refOf s Ls)) ∨
    ∃ n : Int, I64 n ∧ PC 69 (fun A => #[.pointer (some ⟨A, 0, none⟩), hv i l]) (.returned (.tuple #[thv n, .int .i64 0])) s s ∧
      RC 35 (fun D => #[.pointer (some ⟨D, 0, none⟩), hv i l]) (.returned (.tuple #[.int .i64 n, .int .i64 0])) (refOf s Ls) (refOf s Ls) := by
  have hw := h.wf
  have hr := rwf h hL
  have hgr := h.good i l
  cases hg : s.good i l with
  | false =>
    rw [hg] at hgr
    exact .inl ⟨fun B w A D r hb => hb.progN fun vn vf ha => ArT.get_bad A i l s vn vf w ha hw hi hg, fun B w A D s0 hb => hb.refN fun p hrf => Rfw.get_bad D i l _ p w hrf hr hi hgr⟩
  | true =>
    rw [hg] at hgr
    obtain ⟨d, hd, ht, rfl, hx, _⟩ := good_at h hg
    obtain ⟨n, hn, hv⟩ := h.val hd ht
    have hvx : (plAt s i).value = n := by rw [plAt_at hd]; show valOf d.v = n; rw [hv]; rfl
    refine .inr ⟨n, hn, fun B w A D r hb => hb.progN fun vn vf ha => ?_, fun B w A D s0 hb => hb.refN fun p hrf => ?_⟩
    · obtain ⟨g, c, rfl⟩ := row_at ha hd
      exact ArT.get_ok A g c i n (thS n) s vf d w ha hw hd ht hv
    · rw [← hvx]
      exact Rfw.get_ok D i d.life _ (plAt s i) p w hrf hr hi hgr hx

/-! ### Len, Free -/
theorem len_both (h : Pgp s Ls) (hL : Ls.length ≤ 4194304) : ∃ n m : Nat, n ≤ 65536 ∧ m ≤ 65536 ∧ (refOf s Ls).places.length = n + m ∧
    (∀ (B : Nat → Prop) (w : World) (A D : Nat) (r : Rf), Both B w A D s r → Calls Try.prog 82 #[.pointer (some ⟨A, 0, none⟩)] w fun e w' => e = .returned (.int .i64 (n : Int)) ∧ ∃ k, w' = w.drewN k) ∧
    (∀ (B : Nat → Prop) (w : World) (A D : Nat) (r : Rf), Both B w A D s r → Calls Try.prog 83 #[.pointer (some ⟨A, 0, none⟩)] w fun e w' => e = .returned (.int .i64 (m : Int)) ∧ ∃ k, w' = w.drewN k) ∧
    (∀ (B : Nat → Prop) (w : World) (A D : Nat) (s0 : Ar), Both B w A D s0 (refOf s Ls) → Calls Try.prog 36 #[.pointer (some ⟨D, 0, none⟩)] w fun e w' => e = .returned (.int .i64 (n : Int)) ∧ w' = w) := by
  have hw := h.wf
  have hr := rwf h hL
  have h1 := hw.room
  have h2 := hw.len
  have h3 := hw.flen
  refine ⟨s.nodes.length - s.free.length, s.room - (s.nodes.length - s.free.length), by omega, by omega, by rw [ref_len]; omega, ?_, ?_, ?_⟩
  · rintro B w A D r ⟨vn, vf, p, ha, _, _, _⟩
    exact ArT.len_any A s vn vf w ha hw
  · rintro B w A D r ⟨vn, vf, p, ha, _, _, _⟩
    exact ArT.free_any A s vn vf w ha hw
  · rintro B w A D s0 ⟨vn, vf, p, _, hrf, _, _⟩
    have := Rfw.len_any D (refOf s Ls) p w hrf hr
    rw [h.count] at this
    exact this

/-! ### Another queue -/
theorem queue_both (h : Pgp s Ls) (hL : Ls.length ≤ 4194304) :
    (∀ (B : Nat → Prop) (w : World) (A D : Nat) (r : Rf), Both B w A D s r → Calls Try.prog 67 #[.pointer (some ⟨A, 0, none⟩)] w fun e w' =>
      e = .returned (.pointer (some ⟨w.heap.size, 0, none⟩)) ∧ Both B w' A D { s with qs := s.qs ++ [⟨w.heap.size, -1, -1, 0, 0⟩] } r ∧ Pgp { s with qs := s.qs ++ [⟨w.heap.size, -1, -1, 0, 0⟩] } (Ls ++ [[]]) ∧ Only Nil w w' ∧ w.heap.size < w'.heap.size) ∧
    ∀ b, b ∉ blks s → RC 68 (fun D => #[.pointer (some ⟨D, 0, none⟩)]) (.returned (.int .i64 (Ls.length : Int))) (refOf s Ls) (refOf { s with qs := s.qs ++ [⟨b, -1, -1, 0, 0⟩] } (Ls ++ [[]])) := by
  have hw := h.wf
  have hr := rwf h hL
  constructor
  · rintro B w A D r ⟨vn, vf, p, ha, hrf, h3, h4, h5⟩
    refine (ArT.newQueue_any A w).mono ?_
    rintro e w' ⟨rfl, rfl⟩
    have hb : w.heap.size ∉ blks s := fun hm => by
      obtain ⟨q, hq, e⟩ := List.mem_map.1 hm
      have := blk_lt (ha.q q hq)
      omega
    have o : Only Nil w (w.alloc (.cells #[.pointer (some ⟨A, 0, none⟩), .int .i64 (-1), .int .i64 (-1), .int .i64 0, .int .i64 0] tQ)) := (Only.refl _ _).alloc _
    have ha' := ha.only o (fun _ _ h => h)
    refine ⟨rfl, ⟨vn, vf, p, ⟨ha'.a, ha'.n, ha'.f, fun q hq => ?_⟩, RfRep.nil hrf o, fun k hk => ?_, h4, fun k hk => h5 k (Nat.le_trans o.size hk)⟩, (h.queue hb).1, o, by simp⟩
    · rcases List.mem_append.1 hq with h1 | h1
      · exact ha'.q q h1
      · simp at h1
        subst h1
        exact blk_new w _
    · rcases hk with hk | hk | hk | ⟨q, hq, hk⟩
      · exact h3 k (.inl hk)
      · exact h3 k (.inr (.inl hk))
      · exact h3 k (.inr (.inr (.inl hk)))
      · rcases List.mem_append.1 hq with h1 | h1
        · exact h3 k (.inr (.inr (.inr ⟨q, h1, hk⟩)))
        · simp at h1
          subst h1
          have hk' : w.heap.size = k := hk
          subst hk'
          exact ⟨h5 _ (Nat.le_refl _), fun hd => by have := RfRep.lt hrf hd; omega⟩
  · intro b hb
    exact RC.eq (fun B w A D s0 hb => hb.ref fun p hrf => Rfw.queue_any D _ p w hrf hr) (h.queue hb).2
end
end Al
end Go.Proofs.Ytnhedhmffgaohaa
