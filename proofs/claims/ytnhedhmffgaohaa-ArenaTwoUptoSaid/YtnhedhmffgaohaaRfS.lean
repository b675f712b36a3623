/- The document's arena in memory: what a store makes of it; a step of it, whatever blocks it then lies in. -/
import Derived.Test.YtnhedhmffgaohaaRfI
namespace Go.Proofs.Ytnhedhmffgaohaa
open Go.RowKit
namespace Rfw

section
variable {w w1 : World} {D : Nat} {r : Rf} {vp vd vq : Value} {rows : List Value}
theorem RfRep.setP {g c n i k : Nat} {x x' : Pl} {u : Value} (h : RfRep w D r (.slice (some ⟨g, 0, none⟩) n c) vd vq rows) (hx : r.places[i]? = some x) (hk : k < 5) (he : x'.cells = x.cells.set k u) :
    RfRep (w.setCell ⟨g, i * 5 + k, none⟩ u) D { r with places := r.places.set i x' } (.slice (some ⟨g, 0, none⟩) n c) vd vq rows := by
  have hgD : g ≠ D := ob_ne' (own_blk_ne h.p h.d (by decide))
  have hn : n = r.places.length := by
    obtain ⟨_, _, e, _⟩ := own_slice h.p
    injection e with _ e _
  subst hn
  refine ⟨blk_far h.d hgD.symm _, ?_, own_far h.f (p := ⟨g, i * 5 + k, none⟩) (own_own_ne h.p h.f (by decide) rfl) _, own_far h.q (p := ⟨g, i * 5 + k, none⟩) (own_own_ne h.p h.q (by decide) rfl) _, fun j l hl => ?_, h.ap, h.apd⟩
  · have h1 := own_set h.p (i * 5 + k) u
    rw [lay_set (enc := Pl.cells) (m := 5) (fun a _ => a.len) hx hk he] at h1
    simpa using h1
  · obtain ⟨v, h1, h2⟩ := h.row j l hl
    exact ⟨v, h1, own_far h2 (p := ⟨g, i * 5 + k, none⟩) (own_own_ne h.p h2 (by decide) rfl) _⟩
theorem RfRep.setP' {g c n i k : Nat} {pl : List Pl} {x x' : Pl} {u : Value} (h : RfRep w D { r with places := pl.set i x } (.slice (some ⟨g, 0, none⟩) n c) vd vq rows) (hi : i < pl.length) (hk : k < 5) (he : x'.cells = x.cells.set k u) :
    RfRep (w.setCell ⟨g, i * 5 + k, none⟩ u) D { r with places := pl.set i x' } (.slice (some ⟨g, 0, none⟩) n c) vd vq rows := by
  have h1 := h.setP (x := x) (x' := x') (List.getElem?_set_self hi) hk he
  simpa only [List.set_set] using h1
/-- A whole place. -/
theorem RfRep.setP5 {g c n i : Nat} {x : Pl} (h : RfRep w D r (.slice (some ⟨g, 0, none⟩) n c) vd vq rows) (hx : r.places[i]? = some x) (y : Pl) :
    RfRep (((((w.setCell ⟨g, i * 5, none⟩ (.int .u32 (y.life : Int))).setCell ⟨g, i * 5 + 1, none⟩ (.bool y.taken)).setCell ⟨g, i * 5 + 2, none⟩ (.int .i64 y.value)).setCell ⟨g, i * 5 + 3, none⟩ (.int .i64 (y.inn : Int))).setCell ⟨g, i * 5 + 4, none⟩ (.bool y.dead)) D
      { r with places := r.places.set i y } (.slice (some ⟨g, 0, none⟩) n c) vd vq rows := by
  have hi := (List.getElem?_eq_some_iff.1 hx).1
  have r1 := h.setP hx (k := 0) (u := .int .u32 (y.life : Int)) (x' := ⟨y.life, x.taken, x.value, x.inn, x.dead⟩) (by omega) rfl
  have r2 := r1.setP' (r := r) hi (k := 1) (u := .bool y.taken) (x' := ⟨y.life, y.taken, x.value, x.inn, x.dead⟩) (by omega) rfl
  have r3 := r2.setP' (r := r) hi (k := 2) (u := .int .i64 y.value) (x' := ⟨y.life, y.taken, y.value, x.inn, x.dead⟩) (by omega) rfl
  have r4 := r3.setP' (r := r) hi (k := 3) (u := .int .i64 (y.inn : Int)) (x' := ⟨y.life, y.taken, y.value, y.inn, x.dead⟩) (by omega) rfl
  exact r4.setP' (r := r) hi (k := 4) (u := .bool y.dead) (x' := y) (by omega) rfl
theorem ob_eq {g n c b : Nat} (h : (Value.slice (some ⟨g, 0, none⟩) n c).ownBlock = some b) : g = b := by simpa [Value.ownBlock] using h
theorem only_own {v : Value} {xs : List Value} {n : Nat} {e : TypeId} {size : Nat} {v0 : Value} (h : w.ownsRow 0 e size v n xs) (ho : Only (fun b => v0.ownBlock = some b) w w1) (hne : ∀ b, v.ownBlock = some b → v0.ownBlock ≠ some b) : w1.ownsRow 0 e size v n xs :=
  own_only h ho hne
/-- Another row of the dropped. -/
theorem RfRep.setD {vd' : Value} {l' : List Nat} (h : RfRep w D r vp vd vq rows) (ho : Only (fun b => vd.ownBlock = some b) w w1) (hown : w1.ownsRow 0 tI 1 vd' l'.length (ints l')) (hv : ∀ b, vd'.ownBlock = some b → vd.ownBlock = some b ∨ w.heap.size ≤ b) :
    RfRep (w1.setCell ⟨D, 1, none⟩ vd') D { r with dropped := l' } vp vd' vq rows := by
  have hd1 := ho.blk h.d (own_blk_ne h.f h.d (by decide))
  have hne : ∀ {e : TypeId} {size n : Nat} {v : Value} {xs : List Value}, w1.ownsRow 0 e size v n xs → e ≠ tR → v.ownBlock ≠ some D := fun ho' he => own_blk_ne ho' hd1 he
  have hp1 := only_own h.p ho (fun b hb => own_own_ne h.p h.f (by decide) hb)
  have hq1 := only_own h.q ho (fun b hb => own_own_ne h.q h.f (by decide) hb)
  refine ⟨blk_set hd1 1 vd', own_far hp1 (hne hp1 (by decide)) _, own_far hown (hne hown (by decide)) _, own_far hq1 (hne hq1 (by decide)) _, fun j l hl => ?_, h.ap, fun v hv' b hb e => ?_⟩
  · obtain ⟨v, h1, h2⟩ := h.row j l hl
    have h3 := only_own h2 ho (fun b hb => h.apd v (List.mem_of_getElem? h1) b hb)
    exact ⟨v, h1, own_far h3 (hne h3 (by decide)) _⟩
  · rcases hv b e with h1 | h1
    · exact h.apd v hv' b hb h1
    · obtain ⟨_, _, _, _, h2⟩ := h.rowAt hv'
      have := own_lt h2 hb
      omega
/-- Another row of a queue. -/
theorem RfRep.setRow {g c n j : Nat} {v v' : Value} {l l' : List Nat} (h : RfRep w D r vp vd (.slice (some ⟨g, 0, none⟩) n c) rows) (hj : rows[j]? = some v) (hl : r.queues[j]? = some l) (ho : Only (fun b => v.ownBlock = some b) w w1)
    (hown : w1.ownsRow 0 tI 1 v' l'.length (ints l')) (hv : ∀ b, v'.ownBlock = some b → v.ownBlock = some b ∨ w.heap.size ≤ b) :
    RfRep (w1.setCell ⟨g, j, none⟩ v') D { r with queues := r.queues.set j l' } vp vd (.slice (some ⟨g, 0, none⟩) n c) (rows.set j v') := by
  have hvm := List.mem_of_getElem? hj
  obtain ⟨_, _, _, _, hv0⟩ := h.rowAt hvm
  have hjl : j < rows.length := (List.getElem?_eq_some_iff.1 hj).1
  have hn : n = r.queues.length := by
    obtain ⟨_, _, e, _⟩ := own_slice h.q
    injection e with _ e _
  subst hn
  have hd1 := ho.blk h.d (own_blk_ne hv0 h.d (by decide))
  have hp1 := only_own h.p ho (fun b hb => own_own_ne h.p hv0 (by decide) hb)
  have hq1 := only_own h.q ho (fun b hb => own_own_ne h.q hv0 (by decide) hb)
  have hf1 := only_own h.f ho (fun b hb e => h.apd v hvm b e hb)
  have hgD : D ≠ g := fun e => own_blk_ne hq1 hd1 (by decide) (by rw [e]; rfl)
  have far : ∀ {e : TypeId} {size m : Nat} {u : Value} {xs : List Value}, w1.ownsRow 0 e size u m xs → tS ≠ e → u.ownBlock ≠ some g := fun hu he => own_own_ne hq1 hu he rfl
  have fresh : ∀ u ∈ rows, ∀ b, u.ownBlock = some b → b < w.heap.size := fun u hu b hb => by obtain ⟨_, _, _, _, h2⟩ := h.rowAt hu; exact own_lt h2 hb
  refine ⟨blk_far hd1 hgD _, own_far hp1 (p := ⟨g, j, none⟩) (far hp1 (by decide)) _, own_far hf1 (p := ⟨g, j, none⟩) (far hf1 (by decide)) _, ?_, fun k m hm => ?_, fun a b u u' ha hb hab x hx hx' => ?_, fun u hu b hb e => ?_⟩
  · have := own_set hq1 j v'
    simpa using this
  · by_cases e : k = j
    · subst e
      have hm' : (r.queues.set k l')[k]? = some m := hm
      rw [List.getElem?_set_self (List.getElem?_eq_some_iff.1 hl).1] at hm'
      injection hm' with hm'
      subst hm'
      exact ⟨v', List.getElem?_set_self hjl, own_far hown (p := ⟨g, k, none⟩) (far hown (by decide)) _⟩
    · have hm' : (r.queues.set j l')[k]? = some m := hm
      rw [List.getElem?_set_ne (fun h => e h.symm)] at hm'
      obtain ⟨u, h1, h2⟩ := h.row k m hm'
      have h3 := only_own h2 ho (fun b hb hb' => h.ap j k v u hj h1 (fun h => e h.symm) b hb' hb)
      exact ⟨u, by rw [List.getElem?_set_ne (fun h => e h.symm)]; exact h1, own_far h3 (p := ⟨g, j, none⟩) (far h3 (by decide)) _⟩
  · by_cases ea : a = j
    · subst ea
      rw [List.getElem?_set_self hjl] at ha
      injection ha with ha
      subst ha
      rw [List.getElem?_set_ne hab] at hb
      rcases hv x hx with h1 | h1
      · exact h.ap a b v u' hj hb hab x h1 hx'
      · have := fresh u' (List.mem_of_getElem? hb) x hx'
        omega
    · rw [List.getElem?_set_ne (fun h => ea h.symm)] at ha
      by_cases eb : b = j
      · subst eb
        rw [List.getElem?_set_self hjl] at hb
        injection hb with hb
        subst hb
        rcases hv x hx' with h1 | h1
        · exact h.ap b a v u hj ha (fun h => hab h.symm) x h1 hx
        · have := fresh u (List.mem_of_getElem? ha) x hx
          omega
      · rw [List.getElem?_set_ne (fun h => eb h.symm)] at hb
        exact h.ap a b u u' ha hb hab x hx hx'
  · rcases List.mem_or_eq_of_mem_set hu with h1 | h1
    · exact h.apd u h1 b hb e
    · subst h1
      rcases hv b hb with h1 | h1
      · exact h.apd v hvm b h1 e
      · have := own_lt h.f e
        omega
/-- A queue more. -/
theorem RfRep.addRow {vq' : Value} (h : RfRep w D r vp vd vq rows) (ho : Only (fun b => vq.ownBlock = some b) w w1) (hown : w1.ownsRow 0 tS 1 vq' (r.queues.length + 1) (rows ++ [.slice none 0 0])) :
    RfRep (w1.setCell ⟨D, 3, none⟩ vq') D { r with queues := r.queues ++ [[]] } vp vd vq' (rows ++ [.slice none 0 0]) := by
  have hd1 := ho.blk h.d (own_blk_ne h.q h.d (by decide))
  have hne : ∀ {e : TypeId} {size n : Nat} {v : Value} {xs : List Value}, w1.ownsRow 0 e size v n xs → e ≠ tR → v.ownBlock ≠ some D := fun ho' he => own_blk_ne ho' hd1 he
  have hp1 := only_own h.p ho (fun b hb => own_own_ne h.p h.q (by decide) hb)
  have hf1 := only_own h.f ho (fun b hb => own_own_ne h.f h.q (by decide) hb)
  have hrl := h.rlen
  refine ⟨blk_set hd1 3 vq', own_far hp1 (hne hp1 (by decide)) _, own_far hf1 (hne hf1 (by decide)) _, ?_, fun j l hl => ?_, fun a b u u' ha hb hab x hx hx' => ?_, fun u hu b hb e => ?_⟩
  · have := own_far hown (hne hown (by decide)) (p := ⟨D, 3, none⟩) vq'
    simpa using this
  · by_cases hj : j < r.queues.length
    · have hl' : (r.queues ++ [[]])[j]? = some l := hl
      rw [List.getElem?_append_left hj] at hl'
      obtain ⟨u, h1, h2⟩ := h.row j l hl'
      have h3 := only_own h2 ho (fun b hb => own_own_ne h2 h.q (by decide) hb)
      exact ⟨u, by rw [List.getElem?_append_left (by omega)]; exact h1, own_far h3 (hne h3 (by decide)) _⟩
    · have hl' : (r.queues ++ [[]])[j]? = some l := hl
      have hj2 : j < r.queues.length + 1 := by have := (List.getElem?_eq_some_iff.1 hl').1; simpa using this
      have hj3 : j = r.queues.length := by omega
      subst hj3
      rw [List.getElem?_append_right (Nat.le_refl _)] at hl'
      simp at hl'
      subst hl'
      exact ⟨.slice none 0 0, by rw [List.getElem?_append_right (by omega), hrl]; simp, own_nil _ _ _ _⟩
  · have nb : ∀ {i : Nat} {z : Value}, (rows ++ [Value.slice none 0 0])[i]? = some z → ∀ {y : Nat}, z.ownBlock = some y → rows[i]? = some z := fun {i z} hz {y} hy => by
      by_cases hi : i < rows.length
      · rw [List.getElem?_append_left hi] at hz; exact hz
      · rw [List.getElem?_append_right (by omega)] at hz
        have := List.mem_of_getElem? hz
        simp at this
        subst this
        simp [Value.ownBlock] at hy
    exact h.ap a b u u' (nb ha hx) (nb hb hx') hab x hx hx'
  · rcases List.mem_append.1 hu with h1 | h1
    · exact h.apd u h1 b hb e
    · simp at h1
      subst h1
      simp [Value.ownBlock] at hb
theorem RfRep.setE {n : Nat} (h : RfRep w D r vp vd vq rows) : RfRep (w.setCell ⟨D, 2, none⟩ (.int .i64 (n : Int))) D { r with ever := n } vp vd vq rows :=
  ⟨blk_set h.d 2 _, own_far h.p (own_blk_ne h.p h.d (by decide)) _, own_far h.f (own_blk_ne h.f h.d (by decide)) _, own_far h.q (own_blk_ne h.q h.d (by decide)) _,
   fun j l hl => by obtain ⟨v, h1, h2⟩ := h.row j l hl; exact ⟨v, h1, own_far h2 (own_blk_ne h2 h.d (by decide)) _⟩, h.ap, h.apd⟩
end

/-! ### A step -/
structure Rp where
  vp : Value
  vd : Value
  vq : Value
  rows : List Value
abbrev RfIs (w : World) (D : Nat) (r : Rf) (p : Rp) : Prop := RfRep w D r p.vp p.vd p.vq p.rows
abbrev Rp.D (p : Rp) (D : Nat) (k : Nat) : Prop := RfD D p.vp p.vd p.vq p.rows k
/-- From a world in which it lies in p, to one in which it is r'. -/
def RStep (w : World) (D : Nat) (p : Rp) (r' : Rf) (w' : World) : Prop := ∃ p', RfIs w' D r' p' ∧ (∀ k, p'.D D k → p.D D k ∨ w.heap.size ≤ k) ∧ Only (p.D D) w w'
theorem RStep.refl {w w' : World} {D : Nat} {r : Rf} {p : Rp} (h : RfIs w D r p) (ho : Only Nil w w') : RStep w D p r w' := ⟨p, h.nil ho, fun _ h => .inl h, ho.mono (fun _ _ h => h.elim)⟩
theorem RStep.trans {w w1 w2 : World} {D : Nat} {r1 r2 : Rf} {p : Rp} (h : RStep w D p r1 w1) (k : ∀ p1, RfIs w1 D r1 p1 → RStep w1 D p1 r2 w2) : RStep w D p r2 w2 := by
  obtain ⟨p1, h1, h2, h3⟩ := h
  obtain ⟨p2, k1, k2, k3⟩ := k p1 h1
  refine ⟨p2, k1, fun x hx => ?_, h3.trans k3 fun i hi hd => ?_⟩
  · rcases k2 x hx with e | e
    · exact h2 x e
    · exact .inr (Nat.le_trans h3.size e)
  · rcases h2 i hd with e | e
    · exact e
    · omega
theorem RStep.cat {w w1 w2 : World} {D : Nat} {r2 : Rf} {p p1 : Rp} (h2 : ∀ k, p1.D D k → p.D D k ∨ w.heap.size ≤ k) (h3 : Only (p.D D) w w1) (k : RStep w1 D p1 r2 w2) : RStep w D p r2 w2 := by
  obtain ⟨p2, k1, k2, k3⟩ := k
  refine ⟨p2, k1, fun x hx => ?_, h3.trans k3 fun i hi hd => ?_⟩
  · rcases k2 x hx with e | e
    · exact h2 x e
    · exact .inr (Nat.le_trans h3.size e)
  · rcases h2 i hd with e | e
    · exact e
    · omega
/-- A store into a box that is younger. -/
theorem RStep.box {w w1 w2 : World} {D b : Nat} {r : Rf} {p : Rp} {cs : Array Value} (h : RStep w D p r w1) (hb : w1.heap[b]? = some (.cells cs tH (0, 0))) (hw : w.heap.size ≤ b) (ho : Only (fun k => k = b) w1 w2) : RStep w D p r w2 := by
  obtain ⟨p1, h1, h2, h3⟩ := h
  refine ⟨p1, RfRep.only h1 ho (fun k hk e => ?_), h2, h3.trans ho fun i hi e => ?_⟩
  · subst e; exact RfRep.box_ne h1 hb hk
  · omega
theorem RStep.nil {w w1 w2 : World} {D : Nat} {r : Rf} {p : Rp} (h : RStep w D p r w1) (ho : Only Nil w1 w2) : RStep w D p r w2 := h.trans fun _ h1 => RStep.refl h1 ho
theorem RStep.of {w w0 w1 : World} {D : Nat} {r : Rf} {p : Rp} (ho : Only Nil w w0) (h : RStep w0 D p r w1) : RStep w D p r w1 := by
  obtain ⟨p1, h1, h2, h3⟩ := h
  exact ⟨p1, h1, fun k hk => (h2 k hk).imp id (Nat.le_trans ho.size), (ho.mono (T := p.D D) (fun _ _ h => h.elim)).trans h3 (fun _ _ h => h)⟩
end Rfw
end Go.Proofs.Ytnhedhmffgaohaa
