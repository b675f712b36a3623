/- The law's own record: two arenas, queues, handles; its begun and pick. -/
import Derived.Test.YtnhedhmffgaohaaAlT
namespace Go.Proofs.Ytnhedhmffgaohaa
open Go.RowKit
namespace Al
open Rfw (RfRep RfIs RStep Rp RfD tR tP tS ob_eq)
open ArT (ArRep ArD tA tN tQ tI tH tT)
abbrev tW : Nat := 59
abbrev tQp : Nat := 124
abbrev tO : Nat := 46
theorem kW : ¬ Kind tW := by unfold Kind; decide
theorem kQp : ¬ Kind tQp := by unfold Kind; decide
def qp (b : Nat) : Value := .pointer (some ⟨b, 0, none⟩)

/-- The law's record, in memory. -/
structure Wr (w : World) (W A D : Nat) (bl : List Nat) (hs : List Hd) (vq vh : Value) : Prop where
  blk : w.heap[W]? = some (.cells #[.pointer (some ⟨A, 0, none⟩), vq, .pointer (some ⟨D, 0, none⟩), vh] tW (0, 0))
  q : w.ownsRow 0 tQp 1 vq bl.length (bl.map qp)
  h : HRow w vh hs
theorem Wr.only {S : Nat → Prop} {w w' : World} {W A D : Nat} {bl : List Nat} {hs : List Hd} {vq vh : Value} (h : Wr w W A D bl hs vq vh) (ho : Only S w w') (h1 : ¬ S W) (h2 : ∀ b, vq.ownBlock = some b → ¬ S b) (h3 : ∀ b, vh.ownBlock = some b → ¬ S b) : Wr w' W A D bl hs vq vh :=
  ⟨ho.blk h.blk h1, own_only h.q ho h2, own_only h.h.own ho h3⟩
theorem Wr.nil {w w' : World} {W A D : Nat} {bl : List Nat} {hs : List Hd} {vq vh : Value} (h : Wr w W A D bl hs vq vh) (ho : Only Nil w w') : Wr w' W A D bl hs vq vh := h.only ho (fun h => h) (fun _ _ h => h) (fun _ _ h => h)
theorem Wr.own {B : Nat → Prop} {w w' : World} {W A D : Nat} {bl : List Nat} {hs : List Hd} {vq vh : Value} (h : Wr w W A D bl hs vq vh) (ho : Only (Own B w) w w') : Wr w' W A D bl hs vq vh :=
  ⟨blk_apart h.blk ho (own_ne kW), own_apart h.q ho (own_ne kQp), own_apart h.h.own ho (own_ne kH)⟩

/-- All that stands between two steps. -/
structure Wl (B : Nat → Prop) (w : World) (W A D : Nat) (s : Ar) (Ls : List (List Nat)) (hs : List Hd) (vq vh : Value) : Prop where
  both : Both B w A D s (refOf s Ls)
  pl : Pgp s Ls
  r : Wr w W A D (blks s) hs vq vh
  hb : ∀ x ∈ hs, x.ix < 4294967296 ∧ x.life < 4294967296
  wB : B W
  qB : ∀ b, vq.ownBlock = some b → B b
  hB : ∀ b, vh.ownBlock = some b → B b
theorem Wl.nil {B : Nat → Prop} {w w' : World} {W A D : Nat} {s : Ar} {Ls : List (List Nat)} {hs : List Hd} {vq vh : Value} (h : Wl B w W A D s Ls hs vq vh) (ho : Only Nil w w') : Wl B w' W A D s Ls hs vq vh :=
  ⟨h.both.nil ho, h.pl, h.r.nil ho, h.hb, h.wB, h.qB, h.hB⟩
theorem Wl.cells {B : Nat → Prop} {w : World} {W A D : Nat} {s : Ar} {Ls : List (List Nat)} {hs : List Hd} {vq vh : Value} (h : Wl B w W A D s Ls hs vq vh) :
    w.cell? ⟨W, 0, none⟩ = some (.pointer (some ⟨A, 0, none⟩)) ∧ w.cell? ⟨W, 1, none⟩ = some vq ∧ w.cell? ⟨W, 2, none⟩ = some (.pointer (some ⟨D, 0, none⟩)) ∧ w.cell? ⟨W, 3, none⟩ = some vh ∧ (∀ o, w.frozen? ⟨W, o, none⟩ = false) ∧ W < w.heap.size :=
  ⟨blk_cell h.r.blk 0, blk_cell h.r.blk 1, blk_cell h.r.blk 2, blk_cell h.r.blk 3, fun o => blk_frozen h.r.blk o, blk_lt h.r.blk⟩

/-! ### begun -/
set_option maxHeartbeats 800000 in
set_option maxRecDepth 100000 in
theorem begun_bad (room : Int) (w : World) (h : room < 1 ∨ 65536 < room) (h2 : -9223372036854775808 ≤ room) (h3 : room ≤ 9223372036854775807) :
    Calls Try.prog 28 #[.int .i64 room] w fun e w' => e = .returned (.tuple #[.pointer (some ⟨w.heap.size, 0, none⟩), .bool true]) ∧ w' = w.alloc (.cells #[.pointer none, .slice none 0 0, .pointer none, .slice none 0 0] tW) := by
  have HN := Lib.hid (ArT.new_bad room w h h2 h3)
  have HR := Lib.hid (Rfw.new_bad room w h h2 h3)
  clear h
  go_enter Try.func28, Try.ntmps28
  go_wp2_with fail
  refine HN.out.mono ?_
  rintro e w1 ⟨rfl, rfl⟩
  go_wp2_with fail
  refine HR.out.mono ?_
  rintro e w1 ⟨rfl, rfl⟩
  go_wp2
  go_ret2
  exact ⟨rfl, rfl⟩
theorem ref0 (room : Nat) : refOf ⟨room, [], [], []⟩ [] = ⟨List.replicate room pl0, [], 0, []⟩ := by
  refine rf_ext (List.ext_getElem? fun k => ?_) rfl rfl rfl
  by_cases hk : k < room
  · rw [ref_get ⟨room, [], [], []⟩ [] hk, plAt_no (Nat.zero_le _)]
    show _ = (List.replicate room pl0)[k]?
    rw [List.getElem?_replicate, if_pos hk]
  · rw [List.getElem?_eq_none (by rw [ref_len]; show room ≤ k; omega)]
    show _ = (List.replicate room pl0)[k]?
    rw [List.getElem?_replicate, if_neg hk]
theorem pgp0 {room : Nat} (h : room ≤ 65536) : Pgp ⟨room, [], [], []⟩ [] :=
  ⟨⟨h, Nat.zero_le _, by simp, by simp, by simp, by simp, by simp⟩, by simp [blks], by intro k hk; simp at hk, rfl, by simp, fun k c hc => by simp [coreOf] at hc⟩
set_option maxHeartbeats 800000 in
set_option maxRecDepth 100000 in
theorem begun_ok (room : Nat) (w : World) (h : 1 ≤ room) (h2 : room ≤ 65536) :
    Calls Try.prog 28 #[.int .i64 room] w fun e w' => ∃ W, e = .returned (.tuple #[.pointer (some ⟨W, 0, none⟩), .bool true]) ∧ ∃ A D vq vh, Wl (fun b => w.heap.size ≤ b) w' W A D ⟨room, [], [], []⟩ [] [] vq vh ∧ Only Nil w w' := by
  have HN := Lib.hid (ArT.new_ok room w h h2)
  have HR := Lib.hid (fun W => Rfw.new_ok room W h h2)
  go_enter Try.func28, Try.ntmps28
  go_wp2_with fail
  refine HN.out.mono ?_
  rintro e w1 ⟨rfl, rfl⟩
  go_wp2_with fail
  refine (HR.out _).mono ?_
  rintro e w2 ⟨D, rfl, p, hr, hp, ho⟩
  go_wp2
  refine bodyPost_ret (v := .tuple #[.pointer (some ⟨w2.heap.size, 0, none⟩), .bool true]) (by simp [results, Try.results28, go_sem]) rfl ?_
  have oA : Only Nil w (w.alloc (.cells #[.int .i64 room, .slice none 0 0, .slice none 0 0] tA)) := (Only.refl _ _).alloc _
  have o2 : Only Nil w w2 := oA.trans ho (fun _ _ h => h)
  have o3 : Only Nil w2 (w2.alloc (.cells #[.pointer (some ⟨w.heap.size, 0, none⟩), .slice none 0 0, .pointer (some ⟨D, 0, none⟩), .slice none 0 0] tW)) := (Only.refl _ _).alloc _
  have hs2 := ho.size
  simp only [World.size_alloc] at hs2
  have ha := (ArT.new_rep room w).only (S := Nil) (ho.trans o3 (fun _ _ h => h)) (fun _ _ h => h)
  refine ⟨w2.heap.size, rfl, w.heap.size, D, .slice none 0 0, .slice none 0 0, ⟨?_, pgp0 h2, ⟨blk_new w2 _, own_nil _ _ _ _, own_nil _ _ _ _⟩, fun x hx => by simp at hx, by omega, fun b hb => by simp [Value.ownBlock] at hb, fun b hb => by simp [Value.ownBlock] at hb⟩, o2.trans o3 (fun _ _ h => h)⟩
  rw [ref0]
  refine ⟨.slice none 0 0, .slice none 0 0, p, ha, RfRep.nil hr o3, fun k hk => ?_, fun k hk => ?_, fun k hk => Nat.le_trans (o2.trans o3 (fun _ _ h => h)).size hk⟩
  · rcases hk with hk | hk | hk | ⟨q, hq, _⟩
    · subst hk
      exact ⟨Nat.le_refl _, fun hd => by have := hp _ hd; simp at this; omega⟩
    · simp [Value.ownBlock] at hk
    · simp [Value.ownBlock] at hk
    · simp at hq
  · have := hp k hk
    simp at this
    omega
end Al
end Go.Proofs.Ytnhedhmffgaohaa
