/- ArenaTwo: the law's second arena (of ints, of three places) and the document's, in step; beside the first pair. -/
import Derived.Test.YtnhedhmffgaohaaAlU
import Derived.Test.YtnhedhmffgaohaaArI2
namespace Go.Proofs.Ytnhedhmffgaohaa
open Go.RowKit
namespace Tw
open Rfw (RfRep RfIs RStep Rp RfD)
open Al (Wl Both Done hv)
open Go.Proofs.Ytnhedhmffgaohaa.Or (Opv)

def plx (x : Int) : Pl := ⟨1, true, x, 0, false⟩
def s2 (xs : List Int) : Ar := ⟨3, xs.map fun x => nd0 [.int .i64 x], [], []⟩
def r2 (xs : List Int) : Rf := ⟨xs.map plx ++ List.replicate (3 - xs.length) pl0, [], xs.length, []⟩
theorem s2_wf {xs : List Int} (h : xs.length ≤ 3) : (s2 xs).wf 1 := by
  refine ⟨by simp [s2], by simpa [s2] using h, by simp [s2], by simp [s2], by simp [s2], fun d hd => ?_, fun d hd => ?_⟩
  · simp only [s2, List.mem_map] at hd; obtain ⟨x, _, rfl⟩ := hd; rfl
  · simp only [s2, List.mem_map] at hd; obtain ⟨x, _, rfl⟩ := hd; show 1 < _; omega
theorem r2_len {xs : List Int} (h : xs.length ≤ 3) : (r2 xs).places.length = 3 := by simp [r2]; omega
theorem r2_wf {xs : List Int} (h : xs.length ≤ 3) : (r2 xs).wf := by
  refine ⟨by rw [r2_len h]; omega, by simp [r2], by simp [r2], by rw [r2_len h]; exact h, by simp [r2], by simp [r2], fun d hd => ?_⟩
  simp only [r2, List.mem_append, List.mem_map, List.mem_replicate] at hd
  rcases hd with ⟨x, _, rfl⟩ | ⟨_, rfl⟩
  · show 1 < _; omega
  · show 0 < _; omega
theorem s2_get {xs : List Int} {i : Nat} {x : Int} (h : xs[i]? = some x) : (s2 xs).nodes[i]? = some (nd0 [.int .i64 x]) := by simp [s2, h]
theorem r2_get {xs : List Int} {i : Nat} {x : Int} (h : xs[i]? = some x) : (r2 xs).places[i]? = some (plx x) := by
  have hi := (List.getElem?_eq_some_iff.1 h).1
  unfold r2
  rw [List.getElem?_append_left (by simpa using hi)]
  simp [h]
theorem r2_next {xs : List Int} (h : xs.length < 3) : (r2 xs).places[xs.length]? = some pl0 := by
  unfold r2
  rw [List.getElem?_append_right (by simp)]
  simp only [List.length_map, Nat.sub_self, List.getElem?_replicate]
  rw [if_pos (by omega)]
theorem r2_snoc {xs : List Int} (h : xs.length < 3) (x : Int) : r2 (xs ++ [x]) = { r2 xs with ever := (r2 xs).ever + 1, places := (r2 xs).places.set (r2 xs).ever ⟨(pl0.life + 1) % 4294967296, true, x, 0, false⟩ } := by
  match xs, h with
  | [], _ => rfl
  | [a], _ => rfl
  | [a, b], _ => rfl
theorem s2_snoc (xs : List Int) (x : Int) : s2 (xs ++ [x]) = { s2 xs with nodes := (s2 xs).nodes ++ [nd0 [.int .i64 x]] } := by simp [s2]

/-- The blocks of the second pair. -/
def Dom (Ab Db : Nat) (xs : List Int) (vn vf : Value) (p : Rp) (k : Nat) : Prop := ArI.ArD Ab (s2 xs) vn vf k ∨ p.D Db k
/-- Between two steps. -/
structure At2 (w wr : World) (W A D k Ab Db : Nat) (xs ys : List Int) (s : Ar) (Ls : List (List Nat)) (hs : List Hd) (vq vh vn vf : Value) (p : Rp) : Prop where
  wl : Wl (fun b => w.heap.size ≤ b ∧ ¬ Dom Ab Db xs vn vf p b) wr W A D s Ls hs vq vh
  ll : Ls.length ≤ k
  hl : hs.length ≤ k
  ar : ArI.ArRep wr Ab (s2 xs) vn vf
  rf : RfIs wr Db (r2 ys) p
  xl : xs.length ≤ 3
  yl : ys.length ≤ 3
  ab : ∀ k, ArI.ArD Ab (s2 xs) vn vf k → w.heap.size ≤ k ∧ ¬ p.D Db k
  rb : ∀ k, p.D Db k → w.heap.size ≤ k
  only : Only (fun b => w.heap.size ≤ b) w wr
def At2E (w wr : World) (W A D k Ab Db : Nat) (xs ys : List Int) : Prop := ∃ s Ls hs vq vh vn vf p, At2 w wr W A D k Ab Db xs ys s Ls hs vq vh vn vf p
/-- A handle's box stays. -/
def Keep (w w' : World) : Prop := ∀ (b : Nat) (cs : Array Value), w.heap[b]? = some (.cells cs ArT.tH (0, 0)) → w'.heap[b]? = some (.cells cs ArT.tH (0, 0))
theorem Keep.of {S : Nat → Prop} {w w' : World} (ho : Only S w w') (hs : ∀ b cs, w.heap[b]? = some (.cells cs ArT.tH (0, 0)) → ¬ S b) : Keep w w' := fun b cs h => ho.blk h (hs b cs h)
theorem Keep.nil {w w' : World} (ho : Only Nil w w') : Keep w w' := Keep.of ho fun _ _ _ h => h

theorem wl_move {P P' S : Nat → Prop} {w w' : World} {W A D : Nat} {s : Ar} {Ls : List (List Nat)} {hs : List Hd} {vq vh : Value} (h : Wl P w W A D s Ls hs vq vh) (ho : Only S w w') (hS : ∀ b, P b → ¬ S b) (hP : ∀ b, b < w.heap.size → P b → P' b) (hu : ∀ k, w'.heap.size ≤ k → P' k) : Wl P' w' W A D s Ls hs vq vh := by
  obtain ⟨vn, vf, p, h1, h2, h3, h4, h5⟩ := h.both
  exact ⟨⟨vn, vf, p, h1.only ho (fun k hk => hS k (h3 k hk).1), RfRep.only h2 ho (fun k hk => hS k (h4 k hk)), fun k hk => ⟨hP k (h1.lt hk) (h3 k hk).1, (h3 k hk).2⟩, fun k hk => hP k (RfRep.lt h2 hk) (h4 k hk), hu⟩, h.pl,
    h.r.only ho (hS _ h.wB) (fun b hb => hS b (h.qB b hb)) (fun b hb => hS b (h.hB b hb)), h.hb,
    hP W (blk_lt h.r.blk) h.wB, fun b hb => hP b (own_lt h.r.q hb) (h.qB b hb), fun b hb => hP b (own_lt h.r.h.own hb) (h.hB b hb)⟩
theorem repred {P P' : Nat → Prop} {w w' : World} {W A D : Nat} {s : Ar} {Ls : List (List Nat)} {hs : List Hd} {vq vh : Value} (h : Wl P w W A D s Ls hs vq vh) (ho : Only Nil w w') (hP : ∀ b, b < w.heap.size → P b → P' b) (hu : ∀ k, w'.heap.size ≤ k → P' k) : Wl P' w' W A D s Ls hs vq vh :=
  wl_move h ho (fun _ _ h => h) hP hu

section
variable {w wr w' : World} {W A D k Ab Db : Nat} {xs ys : List Int}
theorem At2E.nil (h : At2E w wr W A D k Ab Db xs ys) (ho : Only Nil wr w') : At2E w w' W A D k Ab Db xs ys := by
  obtain ⟨s, Ls, hs, vq, vh, vn, vf, p, h⟩ := h
  exact ⟨s, Ls, hs, vq, vh, vn, vf, p, h.wl.nil ho, h.ll, h.hl, h.ar.only ho (fun _ _ h => h), RfRep.nil h.rf ho, h.xl, h.yl, h.ab, h.rb, h.only.trans ho (fun _ _ h => h.elim)⟩
theorem At2.dlt {s : Ar} {Ls : List (List Nat)} {hs : List Hd} {vq vh vn vf : Value} {p : Rp} (h : At2 w wr W A D k Ab Db xs ys s Ls hs vq vh vn vf p) {b : Nat} (hb : Dom Ab Db xs vn vf p b) : b < wr.heap.size := by
  rcases hb with hb | hb
  · exact h.ar.lt hb
  · exact RfRep.lt h.rf hb
theorem At2E.ops (h : At2E w wr W A D k Ab Db xs ys) {b off : Nat} {o : Opv} (hb : b < w.heap.size) (hc : ∀ (j : Nat) (u : Value), o.cells[j]? = some u → w.cell? ⟨b, off + j, none⟩ = some u) :
    b < wr.heap.size ∧ ∀ (j : Nat) (u : Value), o.cells[j]? = some u → wr.cell? ⟨b, off + j, none⟩ = some u := by
  obtain ⟨s, Ls, hs, vq, vh, vn, vf, p, h⟩ := h
  exact ⟨Nat.lt_of_lt_of_le hb h.only.size, fun j u hu => (h.only.cell (p := ⟨b, off + j, none⟩) hb (by show ¬ (w.heap.size ≤ b); omega)).trans (hc j u hu)⟩
theorem At2E.cell (h : At2E w wr W A D k Ab Db xs ys) {b o : Nat} {u : Value} (hb : b < w.heap.size) (hc : w.cell? ⟨b, o, none⟩ = some u) : b < wr.heap.size ∧ wr.cell? ⟨b, o, none⟩ = some u := by
  obtain ⟨s, Ls, hs, vq, vh, vn, vf, p, h⟩ := h
  exact ⟨Nat.lt_of_lt_of_le hb h.only.size, (h.only.cell (p := ⟨b, o, none⟩) hb (by show ¬ (w.heap.size ≤ b); omega)).trans hc⟩
theorem At2E.below (h : At2E w wr W A D k Ab Db xs ys) : Below w.heap.size w wr := by
  obtain ⟨s, Ls, hs, vq, vh, vn, vf, p, h⟩ := h
  exact h.only.below (Nat.le_refl _) (fun k hk h => by omega)
theorem At2E.pick (h : At2E w wr W A D k Ab Db xs ys) (hk : k < 4194304) (o : Opv) (ho : o.ok) : ∃ i l : Nat, i < 4294967296 ∧ l < 4294967296 ∧
    Calls Try.prog 29 #[.pointer (some ⟨W, 0, none⟩), .agg (Al.ocs o)] wr fun e w' => e = .returned (hv i l) ∧ Only Nil wr w' := by
  obtain ⟨s, Ls, hs, vq, vh, vn, vf, p, h⟩ := h
  exact Al.pick_any h.wl o ho (by have := h.hl; omega)
theorem At2E.seen (h : At2E w wr W A D k Ab Db xs ys) (hk : k ≤ 4194304) :
    Calls Try.prog 32 #[.pointer (some ⟨W, 0, none⟩)] wr fun e w' => e = .returned (.bool true) ∧ At2E w w' W A D k Ab Db xs ys := by
  have h' := h
  obtain ⟨s, Ls, hs, vq, vh, vn, vf, p, h⟩ := h
  exact (Al.seen_any h.wl (by have := h.ll; omega)).mono fun e w' ⟨he, ho⟩ => ⟨he, h'.nil ho⟩
/-- A step of the first pair, with the box of the handle beside it. -/
theorem At2E.step (h : At2E w wr W A D k Ab Db xs ys) {w1 : World} {b f : Nat} {cs : Array Value} {args : Array Value} (ho : Only Nil wr w1) (hb : wr.heap.size ≤ b) (hbx : w1.heap[b]? = some (.cells cs ArT.tH (0, 0)))
    (hc : ∀ (P : Nat → Prop) (s : Ar) (Ls : List (List Nat)) (hs : List Hd) (vq vh : Value), Wl P w1 W A D s Ls hs vq vh → Ls.length ≤ k → hs.length ≤ k → Calls Try.prog f args w1 fun e w' => e = .returned (.bool true) ∧ Done P w1 W A D Ls hs w') :
    Calls Try.prog f args w1 fun e w' => e = .returned (.bool true) ∧ At2E w w' W A D (k + 1) Ab Db xs ys ∧ w'.heap[b]? = some (.cells cs ArT.tH (0, 0)) := by
  obtain ⟨s, Ls, hs, vq, vh, vn, vf, p, h⟩ := h
  have hbl := blk_lt hbx
  have hw : Wl (fun c => (w.heap.size ≤ c ∧ ¬ Dom Ab Db xs vn vf p c) ∧ c ≠ b) w1 W A D s Ls hs vq vh :=
    repred h.wl ho (fun c hc hp => ⟨hp, by omega⟩) (fun c hc => by
      have h1 := ho.size
      have h2 := h.only.size
      exact ⟨⟨by omega, fun hd => by have := h.dlt hd; omega⟩, by omega⟩)
  refine (hc _ s Ls hs vq vh hw h.ll h.hl).mono ?_
  rintro e w' ⟨he, s', Ls', hs', vq', vh', hwl, l1, l2, on⟩
  have h1 := h.ll
  have h2 := h.hl
  refine ⟨he, ⟨s', Ls', hs', vq', vh', vn, vf, p, ?_, by omega, by omega, ?_, ?_, h.xl, h.yl, h.ab, h.rb, (h.only.trans ho (fun _ _ h => h.elim)).trans on (fun _ _ h => h.1.1)⟩, on.blk hbx (fun h => h.2 rfl)⟩
  · exact repred hwl (Only.refl _ _) (fun c _ hp => hp.1) (fun c hc => by
      have h1 := ho.size
      have h2 := h.only.size
      have h3 := on.size
      exact ⟨by omega, fun hd => by have := h.dlt hd; omega⟩)
  · exact (h.ar.only ho (fun _ _ h => h)).only on (fun c hd hp => hp.1.2 (.inl hd))
  · exact RfRep.only (RfRep.nil h.rf ho) on (fun c hd hp => hp.1.2 (.inr hd))

/-! ### The second pair's own steps -/
def tkI (xs : List Int) : Nat := if xs.length < 3 then xs.length else 0
def tkL (xs : List Int) : Nat := if xs.length < 3 then 1 else 0
def tkF (xs : List Int) : Int := if xs.length < 3 then 0 else 51
def tkX (xs : List Int) (x : Int) : List Int := if xs.length < 3 then xs ++ [x] else xs

theorem box_ne {w : World} {b : Nat} {cs : Array Value} {vn vf : Value} (h : ArI.ArRep w Ab (s2 xs) vn vf) (hb : w.heap[b]? = some (.cells cs ArT.tH (0, 0))) : ¬ ArI.ArD Ab (s2 xs) vn vf b := by
  rintro (rfl | hk | hk | ⟨q, hq, _⟩)
  · exact blk_ne h.a hb (by decide) rfl
  · exact own_blk_ne h.n hb (by decide) hk
  · exact own_blk_ne h.f hb (by decide) hk
  · simp [s2] at hq
/-- The second pair moves. -/
theorem At2.move {s : Ar} {Ls : List (List Nat)} {hs : List Hd} {vq vh vn vf vn' vf' : Value} {p p' : Rp} {S : Nat → Prop} {xs' ys' : List Int} (h : At2 w wr W A D k Ab Db xs ys s Ls hs vq vh vn vf p)
    (ar' : ArI.ArRep w' Ab (s2 xs') vn' vf') (rf' : RfIs w' Db (r2 ys') p') (hd : ∀ b, Dom Ab Db xs' vn' vf' p' b → Dom Ab Db xs vn vf p b ∨ wr.heap.size ≤ b) (hdis : ∀ b, ArI.ArD Ab (s2 xs') vn' vf' b → ¬ p'.D Db b)
    (ho : Only S wr w') (hS : ∀ b, S b → Dom Ab Db xs vn vf p b) (hx : xs'.length ≤ 3) (hy : ys'.length ≤ 3) : At2E w w' W A D k Ab Db xs' ys' ∧ Keep wr w' := by
  have hb : ∀ b, Dom Ab Db xs vn vf p b → w.heap.size ≤ b := fun b hb => hb.elim (fun e => (h.ab b e).1) (h.rb b)
  have h1 := h.only.size
  have hb' : ∀ b, Dom Ab Db xs' vn' vf' p' b → w.heap.size ≤ b := fun b hb1 => (hd b hb1).elim (hb b) (fun e => by omega)
  refine ⟨⟨s, Ls, hs, vq, vh, vn', vf', p', wl_move h.wl ho (fun b hp hs => hp.2 (hS b hs)) (fun b hlt hp => ⟨hp.1, fun hd1 => ?_⟩) (fun c hc => ⟨by have := ho.size; omega, fun hd1 => ?_⟩), h.ll, h.hl, ar', rf', hx, hy, fun b hb1 => ⟨hb' b (.inl hb1), hdis b hb1⟩, fun b hb1 => hb' b (.inr hb1), h.only.trans ho (fun b _ hs => hb b (hS b hs))⟩, Keep.of ho fun b cs hbx hs => ?_⟩
  · rcases hd b hd1 with e | e
    · exact hp.2 e
    · omega
  · rcases hd1 with e | e
    · have := ar'.lt e; omega
    · have := RfRep.lt rf' e; omega
  · rcases hS b hs with e | e
    · exact box_ne h.ar hbx e
    · exact RfRep.box_ne h.rf hbx e

theorem At2E.takeP (h : At2E w wr W A D k Ab Db xs ys) (x : Int) : Calls Try.prog 11 #[.pointer (some ⟨Ab, 0, none⟩), .int .i64 x] wr fun e w' =>
    e = .returned (.tuple #[hv (tkI xs) (tkL xs), .int .i64 (tkF xs)]) ∧ At2E w w' W A D k Ab Db (tkX xs x) ys ∧ Keep wr w' := by
  have h' := h
  obtain ⟨s, Ls, hs, vq, vh, vn, vf, p, h⟩ := h
  by_cases hl : xs.length < 3
  · unfold tkI tkL tkF tkX
    rw [if_pos hl, if_pos hl, if_pos hl, if_pos hl]
    refine (ArI.take3 Ab (s2 xs) vn vf x wr h.ar (s2_wf h.xl) rfl (by simpa [s2] using hl)).mono ?_
    rintro e w' ⟨rfl, vn', ha, hv', ho⟩
    rw [← s2_snoc] at ha
    have hSD : ∀ b, (b = Ab ∨ vn.ownBlock = some b) → ArI.ArD Ab (s2 xs) vn vf b := fun b hb => hb.elim .inl (fun h => .inr (.inl h))
    have hdom : ∀ b, ArI.ArD Ab (s2 (xs ++ [x])) vn' vf b → ArI.ArD Ab (s2 xs) vn vf b ∨ wr.heap.size ≤ b := by
      rintro b (hb | hb | hb | ⟨q, hq, _⟩)
      · exact .inl (.inl hb)
      · rcases hv' with e | e
        · exact .inl (.inr (.inl (e ▸ hb)))
        · exact .inr (e b hb)
      · exact .inl (.inr (.inr (.inl hb)))
      · simp [s2] at hq
    refine ⟨by simp [s2, hv], At2.move h ha (RfRep.only h.rf ho (fun b hb hs => (h.ab b (hSD b hs)).2 hb)) (fun b hb => ?_) (fun b hb => ?_) ho (fun b hb => .inl (hSD b hb)) (by simp; omega) h.yl⟩
    · rcases hb with hb | hb
      · exact (hdom b hb).imp .inl id
      · exact .inl (.inr hb)
    · rcases hdom b hb with e | e
      · exact (h.ab b e).2
      · exact fun hd => by have := RfRep.lt h.rf hd; omega
  · have h3 : xs.length = 3 := by have := h.xl; omega
    unfold tkI tkL tkF tkX
    rw [if_neg hl, if_neg hl, if_neg hl, if_neg hl]
    refine (ArI.take2 Ab (s2 xs) vn vf x wr h.ar (s2_wf h.xl) rfl (by simpa [s2] using h3)).mono ?_
    rintro e w' ⟨rfl, ho⟩
    exact ⟨rfl, h'.nil ho, Keep.nil ho⟩
theorem At2E.takeR (h : At2E w wr W A D k Ab Db xs ys) (x : Int) : Calls Try.prog 34 #[.pointer (some ⟨Db, 0, none⟩), .int .i64 x] wr fun e w' =>
    e = .returned (.tuple #[hv (tkI ys) (tkL ys), .int .i64 (tkF ys)]) ∧ At2E w w' W A D k Ab Db xs (tkX ys x) ∧ Keep wr w' := by
  have h' := h
  obtain ⟨s, Ls, hs, vq, vh, vn, vf, p, h⟩ := h
  by_cases hl : ys.length < 3
  · unfold tkI tkL tkF tkX
    rw [if_pos hl, if_pos hl, if_pos hl, if_pos hl]
    refine (Rfw.take_new Db x (r2 ys) pl0 p wr h.rf (r2_wf h.yl) rfl (r2_next hl)).mono ?_
    rintro e w' ⟨rfl, p', hr, hdm, ho⟩
    rw [← r2_snoc hl] at hr
    refine ⟨rfl, At2.move h (h.ar.only ho (fun b hb hs => (h.ab b hb).2 hs)) hr (fun b hb => ?_) (fun b hb hd => ?_) ho (fun b hb => .inr hb) h.xl (by simp; omega)⟩
    · rcases hb with hb | hb
      · exact .inl (.inl hb)
      · exact (hdm b hb).imp .inr id
    · rcases hdm b hd with e | e
      · exact (h.ab b hb).2 e
      · have := h.ar.lt hb; omega
  · have h3 : ys.length = 3 := by have := h.yl; omega
    unfold tkI tkL tkF tkX
    rw [if_neg hl, if_neg hl, if_neg hl, if_neg hl]
    refine (Rfw.take_full Db x (r2 ys) p wr h.rf (r2_wf h.yl) rfl (by rw [r2_len h.yl]; show 3 ≤ ys.length; omega)).mono ?_
    rintro e w' ⟨rfl, ho⟩
    exact ⟨rfl, h'.nil ho, Keep.nil ho⟩

/-- What Get answers. -/
def gtV (xs : List Int) (i l : Nat) : Int := match xs[i]? with | some x => if l = 1 then x else 0 | none => 0
def gtF (xs : List Int) (i l : Nat) : Int := match xs[i]? with | some _ => if l = 1 then 0 else 50 | none => 50
theorem At2E.getP (h : At2E w wr W A D k Ab Db xs ys) (i l : Nat) (hi : i < 4294967296) : Calls Try.prog 15 #[.pointer (some ⟨Ab, 0, none⟩), hv i l] wr fun e w' =>
    e = .returned (.tuple #[.int .i64 (gtV xs i l), .int .i64 (gtF xs i l)]) ∧ Only Nil wr w' := by
  obtain ⟨s, Ls, hs, vq, vh, vn, vf, p, h⟩ := h
  unfold gtV gtF
  cases hx : xs[i]? with
  | none =>
    refine ArI.get_bad Ab i l (s2 xs) vn vf wr h.ar (s2_wf h.xl) hi ?_
    unfold Ar.good
    simp [s2, hx]
  | some x =>
    have hg := s2_get hx
    show Calls _ _ _ _ fun e w' => e = .returned (.tuple #[.int .i64 (if l = 1 then x else 0), .int .i64 (if l = 1 then 0 else 50)]) ∧ Only Nil wr w'
    by_cases e : l = 1
    · rw [if_pos e, if_pos e]
      subst e
      obtain ⟨g, c, rfl, _⟩ := h.ar.row (by have := (List.getElem?_eq_some_iff.1 hg).1; omega)
      have hh := ArI.get_ok Ab g c i x (s2 xs) vf (nd0 [.int .i64 x]) wr h.ar (s2_wf h.xl) hg rfl rfl
      have e1 : (nd0 [.int .i64 x]).life = 1 := rfl
      rw [e1] at hh
      unfold hv
      exact hh
    · rw [if_neg e, if_neg e]
      refine ArI.get_bad Ab i l (s2 xs) vn vf wr h.ar (s2_wf h.xl) hi ?_
      unfold Ar.good
      rw [hg]
      simp [nd0]
      omega
theorem At2E.getR (h : At2E w wr W A D k Ab Db xs ys) (i l : Nat) (hi : i < 4294967296) : Calls Try.prog 35 #[.pointer (some ⟨Db, 0, none⟩), hv i l] wr fun e w' =>
    e = .returned (.tuple #[.int .i64 (gtV ys i l), .int .i64 (gtF ys i l)]) ∧ Only Nil wr w' := by
  obtain ⟨s, Ls, hs, vq, vh, vn, vf, p, h⟩ := h
  unfold gtV gtF
  cases hx : ys[i]? with
  | none =>
    refine Rfw.get_bad Db i l (r2 ys) p wr h.rf (r2_wf h.yl) hi ?_
    unfold Rf.good
    have hn : ys.length ≤ i := List.getElem?_eq_none_iff.1 hx
    unfold r2
    rw [List.getElem?_append_right (by simpa using hn)]
    by_cases hi3 : i - (ys.map plx).length < 3 - ys.length
    · rw [List.getElem?_replicate, if_pos hi3]; rfl
    · rw [List.getElem?_replicate, if_neg hi3]
  | some x =>
    have hg := r2_get hx
    show Calls _ _ _ _ fun e w' => e = .returned (.tuple #[.int .i64 (if l = 1 then x else 0), .int .i64 (if l = 1 then 0 else 50)]) ∧ Only Nil wr w'
    by_cases e : l = 1
    · rw [if_pos e, if_pos e]
      subst e
      exact Rfw.get_ok Db i 1 (r2 ys) _ p wr h.rf (r2_wf h.yl) hi (by unfold Rf.good; rw [hg]; rfl) hg
    · rw [if_neg e, if_neg e]
      refine Rfw.get_bad Db i l (r2 ys) p wr h.rf (r2_wf h.yl) hi ?_
      unfold Rf.good
      rw [hg]
      simp [plx]
      omega
theorem At2E.lenP (h : At2E w wr W A D k Ab Db xs ys) : Calls Try.prog 14 #[.pointer (some ⟨Ab, 0, none⟩)] wr fun e w' => e = .returned (.int .i64 (xs.length : Int)) ∧ Only Nil wr w' := by
  obtain ⟨s, Ls, hs, vq, vh, vn, vf, p, h⟩ := h
  refine (ArI.len_any Ab (s2 xs) vn vf wr h.ar (s2_wf h.xl)).mono ?_
  rintro e w' ⟨rfl, n, rfl⟩
  exact ⟨by simp [s2], (Only.refl _ _).drewN _⟩
theorem At2E.lenR (h : At2E w wr W A D k Ab Db xs ys) : Calls Try.prog 36 #[.pointer (some ⟨Db, 0, none⟩)] wr fun e w' => e = .returned (.int .i64 (ys.length : Int)) ∧ Only Nil wr w' := by
  obtain ⟨s, Ls, hs, vq, vh, vn, vf, p, h⟩ := h
  refine (Rfw.len_any Db (r2 ys) p wr h.rf (r2_wf h.yl)).mono ?_
  rintro e w' ⟨rfl, rfl⟩
  refine ⟨?_, Only.refl _ _⟩
  have : ((r2 ys).places.filter Pl.taken).length = ys.length := by
    simp [r2, List.filter_append, List.filter_map, Function.comp_def, plx, pl0]
  rw [this]
end
end Tw
end Go.Proofs.Ytnhedhmffgaohaa
