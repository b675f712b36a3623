/- The law's pick, and its nodes (Drop, Set). -/
import Derived.Test.YtnhedhmffgaohaaAlL
import Derived.Test.YtnhedhmffgaohaaOpv
import Derived.BigQuiet
namespace Go.Proofs.Ytnhedhmffgaohaa
open Go.RowKit
namespace Al
open Rfw (RfRep RfIs RStep Rp RfD tR tP tS ob_eq)
open ArT (ArRep ArD tA tN tQ tI tH tT)
open Go.Proofs.Ytnhedhmffgaohaa.Or (Opv)

def ocs (o : Opv) : Array Value := #[.int .i64 o.kind, .int .i64 o.queue, .int .i64 o.which, .int .i64 o.value, .bool o.raw, .int .u32 o.ix, .int .u32 o.life]

/-! ### pick -/
set_option maxHeartbeats 1600000 in
set_option maxRecDepth 100000 in
theorem pick_any {B : Nat → Prop} {w : World} {W A D : Nat} {s : Ar} {Ls : List (List Nat)} {hs : List Hd} {vq vh : Value} (h : Wl B w W A D s Ls hs vq vh) (o : Opv) (ho : o.ok) (hn : hs.length ≤ 4194304) : ∃ i l : Nat, i < 4294967296 ∧ l < 4294967296 ∧
    Calls Try.prog 29 #[.pointer (some ⟨W, 0, none⟩), .agg (ocs o)] w fun e w' => e = .returned (hv i l) ∧ Only Nil w w' := by
  obtain ⟨hW0, hW1, hW2, hW3, hWf, hWlt⟩ := h.cells
  have hwk := ho.which
  have oB : Only Nil w ((w.alloc (.cells (ocs o) tO)).alloc (.cells #[.int .u32 0, .int .u32 0] tH)) := ((Only.refl _ _).alloc _).alloc _
  have raw : ∀ (hc : o.raw = true ∨ hs.length = 0), Calls Try.prog 29 #[.pointer (some ⟨W, 0, none⟩), .agg (ocs o)] w fun e w' => e = .returned (hv o.ix o.life) ∧ Only Nil w w' := fun hc => by
    obtain ⟨kind, queue, which, value, raw, ix, life⟩ := o
    unfold ocs
    obtain ⟨A3, c3, e3, hc3⟩ := own_slice h.r.h.own
    rw [e3] at hW3
    cases raw with
    | true =>
      clear hc h
      go_enter Try.func29, Try.ntmps29
      go_wp2
      refine bodyPost_ret (v := .agg #[.int .u32 ix, .int .u32 life]) (by simp [results, Try.results29, go_sem]) rfl ⟨rfl, ?_⟩
      exact ((Only.refl _ w).alloc _).alloc _
    | false =>
      have hc' : hs.length = 0 := hc.resolve_left (by simp)
      rw [hc'] at hW3
      clear hc h hc'
      go_enter Try.func29, Try.ntmps29
      go_wp2
      refine bodyPost_ret (v := .agg #[.int .u32 ix, .int .u32 life]) (by simp [results, Try.results29, go_sem]) rfl ⟨rfl, ?_⟩
      exact ((Only.refl _ w).alloc _).alloc _
  by_cases hc : o.raw = true ∨ hs.length = 0
  · exact ⟨o.ix, o.life, ho.ix, ho.life, raw hc⟩
  · clear raw
    have hraw : o.raw = false := by cases hr : o.raw <;> simp_all
    have h0 : 0 < hs.length := by omega
    obtain ⟨kind, queue, which, value, raw, ix, life⟩ := o
    simp only at hraw hwk
    subst hraw
    have hrow := h.r.h
    obtain ⟨g, c, e3, hg, hc3, _⟩ := own_row hrow.own h0
    rw [e3] at hW3 hrow
    have hpos : (0 : Int) < (hs.length : Int) := by omega
    have ht1 := Int.tmod_lt_of_pos which hpos
    have ht2 := Int.lt_tmod_of_pos which hpos
    have hmn : ∀ j : Nat, (hj : j < hs.length) → ∃ i l : Nat, i < 4294967296 ∧ l < 4294967296 ∧ w.cell? ⟨g, j * 2, none⟩ = some (.int .u32 i) ∧ w.cell? ⟨g, j * 2 + 1, none⟩ = some (.int .u32 l) := fun j hj => by
      obtain ⟨k1, k2⟩ := hrow.cell (List.getElem?_eq_getElem hj)
      have := h.hb hs[j] (List.getElem_mem hj)
      exact ⟨_, _, this.1, this.2, k1, k2⟩
    have hne : (hs.length : Int) ≠ 0 := by omega
    have hne2 : ((hs.length : Int) == 0) = false := beq_eq_false_iff_ne.2 hne
    clear hrow h e3 hc oB ho
    unfold ocs
    generalize hs.length = m at *
    generalize ht : Int.tmod which (m : Int) = t at *
    by_cases hneg : t < 0
    · obtain ⟨i, l, hi, hl, k1, k2⟩ := hmn (t + m).toNat (by omega)
      refine ⟨i, l, hi, hl, ?_⟩
      clear hmn
      go_enter Try.func29, Try.ntmps29
      go_wp2
      go_quiet (fail)
      go_wp2
      refine bodyPost_ret (v := .agg #[.int .u32 i, .int .u32 l]) (by simp [results, Try.results29, go_sem]) rfl ⟨rfl, ?_⟩
      exact (((((Only.refl Nil w).alloc _).alloc _).drewN _).setCell (p := ⟨w.heap.size + 1, 0, none⟩) (.inr (Nat.le_succ _)) _).setCell (p := ⟨w.heap.size + 1, 1, none⟩) (.inr (Nat.le_succ _)) _
    · obtain ⟨i, l, hi, hl, k1, k2⟩ := hmn t.toNat (by omega)
      refine ⟨i, l, hi, hl, ?_⟩
      clear hmn
      go_enter Try.func29, Try.ntmps29
      go_wp2
      go_quiet (fail)
      go_wp2
      refine bodyPost_ret (v := .agg #[.int .u32 i, .int .u32 l]) (by simp [results, Try.results29, go_sem]) rfl ⟨rfl, ?_⟩
      exact (((((Only.refl Nil w).alloc _).alloc _).drewN _).setCell (p := ⟨w.heap.size + 1, 0, none⟩) (.inr (Nat.le_succ _)) _).setCell (p := ⟨w.heap.size + 1, 1, none⟩) (.inr (Nat.le_succ _)) _

/-! ### A region with a call of the program's and one of the document's -/
/-- The law's record in memory, and a step's and a handle's boxes. -/
structure Lw (w0 w : World) (W A D : Nat) (bl : List Nat) (hs : List Hd) (vq vh : Value) (o : Opv) (i l : Nat) : Prop where
  r : Wr w W A D bl hs vq vh
  b4 : w.heap[w0.heap.size]? = some (.cells (ocs o) tO (0, 0))
  b5 : w.heap[w0.heap.size + 1]? = some (.cells #[.int .u32 i, .int .u32 l] tH (0, 0))
theorem kO : ¬ Kind tO := by unfold Kind; decide
theorem Lw.own {B : Nat → Prop} {w0 w w' : World} {W A D : Nat} {bl : List Nat} {hs : List Hd} {vq vh : Value} {o : Opv} {i l : Nat} (h : Lw w0 w W A D bl hs vq vh o i l) (ho : Only (Own B w) w w') : Lw w0 w' W A D bl hs vq vh o i l :=
  ⟨h.r.own ho, blk_apart h.b4 ho (own_ne kO), blk_apart h.b5 ho (own_ne kH)⟩
theorem Lw.nil {w0 w w' : World} {W A D : Nat} {bl : List Nat} {hs : List Hd} {vq vh : Value} {o : Opv} {i l : Nat} (h : Lw w0 w W A D bl hs vq vh o i l) (ho : Only Nil w w') : Lw w0 w' W A D bl hs vq vh o i l :=
  ⟨h.r.nil ho, ho.blk h.b4 (fun h => h), ho.blk h.b5 (fun h => h)⟩
/-- What a walk reads of them. -/
def Lc (w0 w : World) (W A D : Nat) (vq vh : Value) (o : Opv) (i l : Nat) : Prop :=
  w.cell? ⟨W, 0, none⟩ = some (.pointer (some ⟨A, 0, none⟩)) ∧ w.cell? ⟨W, 1, none⟩ = some vq ∧ w.cell? ⟨W, 2, none⟩ = some (.pointer (some ⟨D, 0, none⟩)) ∧ w.cell? ⟨W, 3, none⟩ = some vh ∧
    w.cell? ⟨w0.heap.size, 0, none⟩ = some (.int .i64 o.kind) ∧ w.cell? ⟨w0.heap.size, 1, none⟩ = some (.int .i64 o.queue) ∧ w.cell? ⟨w0.heap.size, 3, none⟩ = some (.int .i64 o.value) ∧
    w.cell? ⟨w0.heap.size + 1, 0, none⟩ = some (.int .u32 i) ∧ w.cell? ⟨w0.heap.size + 1, 1, none⟩ = some (.int .u32 l)
theorem Lw.cells {w0 w : World} {W A D : Nat} {bl : List Nat} {hs : List Hd} {vq vh : Value} {o : Opv} {i l : Nat} (h : Lw w0 w W A D bl hs vq vh o i l) : Lc w0 w W A D vq vh o i l :=
  ⟨blk_cell h.r.blk 0, blk_cell h.r.blk 1, blk_cell h.r.blk 2, blk_cell h.r.blk 3, blk_cell h.b4 0, blk_cell h.b4 1, blk_cell h.b4 3, blk_cell h.b5 0, blk_cell h.b5 1⟩
theorem Lw.lt {w0 w : World} {W A D : Nat} {bl : List Nat} {hs : List Hd} {vq vh : Value} {o : Opv} {i l : Nat} (h : Lw w0 w W A D bl hs vq vh o i l) : W < w.heap.size ∧ w0.heap.size < w.heap.size ∧ w0.heap.size + 1 < w.heap.size := ⟨blk_lt h.r.blk, blk_lt h.b4, blk_lt h.b5⟩
/-- Behind the two boxes. -/
def wb (w : World) (o : Opv) (i l : Nat) : World := (w.alloc (.cells (ocs o) tO)).alloc (.cells #[.int .u32 i, .int .u32 l] tH)
theorem wb_nil (w : World) (o : Opv) (i l : Nat) : Only Nil w (wb w o i l) := ((Only.refl _ _).alloc _).alloc _
theorem wb_lw {B : Nat → Prop} {w : World} {W A D : Nat} {s : Ar} {Ls : List (List Nat)} {hs : List Hd} {vq vh : Value} (h : Wl B w W A D s Ls hs vq vh) (o : Opv) (i l : Nat) : Lw w (wb w o i l) W A D (blks s) hs vq vh o i l :=
  ⟨h.r.nil (wb_nil w o i l), blk_alloc (blk_new w _) _, blk_new' _ _ _ (by simp)⟩

/-- What a step leaves. -/
def Done (B : Nat → Prop) (w : World) (W A D : Nat) (Ls : List (List Nat)) (hs : List Hd) (w' : World) : Prop :=
  ∃ s' Ls' hs' vq' vh', Wl B w' W A D s' Ls' hs' vq' vh' ∧ Ls'.length ≤ Ls.length + 1 ∧ hs'.length ≤ hs.length + 1 ∧ Only B w w'
theorem Wl.with {B : Nat → Prop} {w w' : World} {W A D : Nat} {s s' : Ar} {Ls Ls' : List (List Nat)} {hs : List Hd} {vq vh : Value} (h : Wl B w W A D s Ls hs vq vh) (hb : Both B w' A D s' (refOf s' Ls')) (hp : Pgp s' Ls') (hbl : blks s' = blks s) (hr : Wr w' W A D (blks s) hs vq vh) : Wl B w' W A D s' Ls' hs vq vh :=
  ⟨hb, hp, hbl ▸ hr, h.hb, h.wB, h.qB, h.hB⟩
theorem only2 {B : Nat → Prop} {w X w1 w2 : World} (h : Only Nil w X) (h1 : Only (Own B X.drew) X.drew w1) (h2 : Only (Own B w1) w1 w2) : Only B w w2 :=
  (((h.mono (T := B) (fun _ _ h => h.elim)).drew).trans h1 (fun _ _ h => h.1)).trans h2 (fun _ _ h => h.1)

set_option maxHeartbeats 3200000 in
set_option maxRecDepth 100000 in
theorem nodes_drop {B : Nat → Prop} {w : World} {W A D : Nat} {s : Ar} {Ls : List (List Nat)} {hs : List Hd} {vq vh : Value} (h : Wl B w W A D s Ls hs vq vh) (o : Opv) (i l : Nat) (hi : i < 4294967296) (hn : Ls.length ≤ 4194304) (hk : o.kind = 1) :
    Calls Try.prog 30 #[.pointer (some ⟨W, 0, none⟩), .agg (ocs o), hv i l] w fun e w' => e = .returned (.bool true) ∧ Done B w W A D Ls hs w' := by
  obtain ⟨kind, queue, which, value, raw, ix, life⟩ := o
  simp only at hk
  subst hk
  obtain ⟨f, s', hp, hqs, PCd, RCd⟩ := drop_both h.pl hn (l := l) hi
  have hbl : blks s' = blks s := by unfold blks; rw [hqs]
  have HL := Lib.hid (wb_lw h ⟨1, queue, which, value, raw, ix, life⟩ i l)
  have HB := Lib.hid (h.both.nil (wb_nil w ⟨1, queue, which, value, raw, ix, life⟩ i l))
  have HX := Lib.hid (wb_nil w ⟨1, queue, which, value, raw, ix, life⟩ i l)
  have HP := Lib.hid PCd
  have HR := Lib.hid RCd
  have HSof := Lib.hid (fun X (hx : Lw w X W A D (blks s) hs vq vh ⟨1, queue, which, value, raw, ix, life⟩ i l) => And.intro hx.cells hx)
  have H := Lib.hid h
  unfold Lc at HSof
  clear h PCd RCd
  show Calls _ _ #[.pointer (some ⟨W, 0, none⟩), .agg #[.int .i64 1, .int .i64 queue, .int .i64 which, .int .i64 value, .bool raw, .int .u32 ix, .int .u32 life], .agg #[.int .u32 i, .int .u32 l]] _ _
  go_enter Try.func30, Try.ntmps30
  go_wp2
  change Code.wp _ _ _ _ (wb w ⟨1, queue, which, value, raw, ix, life⟩ i l)
  generalize wb w ⟨1, queue, which, value, raw, ix, life⟩ i l = X at *
  obtain ⟨hW1, hW2, hW3⟩ := HL.out.lt
  have HLd := Lib.hid (HL.out.nil (Only.refl _ _).drew)
  have HBd := Lib.hid (HB.out.nil (Only.refl _ _).drew)
  go_region_held3 (fun w' => (w'.cell? ⟨W, 0, none⟩ = some (.pointer (some ⟨A, 0, none⟩)) ∧ w'.cell? ⟨W, 1, none⟩ = some vq ∧ w'.cell? ⟨W, 2, none⟩ = some (.pointer (some ⟨D, 0, none⟩)) ∧ w'.cell? ⟨W, 3, none⟩ = some vh ∧
      w'.cell? ⟨w.heap.size, 0, none⟩ = some (.int .i64 1) ∧ w'.cell? ⟨w.heap.size, 1, none⟩ = some (.int .i64 queue) ∧ w'.cell? ⟨w.heap.size, 3, none⟩ = some (.int .i64 value) ∧
      w'.cell? ⟨w.heap.size + 1, 0, none⟩ = some (.int .u32 i) ∧ w'.cell? ⟨w.heap.size + 1, 1, none⟩ = some (.int .u32 l)) ∧ Lw w w' W A D (blks s) hs vq vh ⟨1, queue, which, value, raw, ix, life⟩ i l)
    (first | exact HSof.out _ HLd.out | exact HSof.out _ (Lw.own (by assumption) ho1) | exact HSof.out _ (Lw.own (by assumption) ho2) | exact HSof.out _ (Lw.nil (by assumption) hot))
    ((first
      | (go_at_call 63; go_split_ands; (refine (HP.out B _ A D (refOf s Ls) HBd.out).mono ?_); rintro e wg1 ⟨rfl, hb1, ho1⟩)
      | (go_at_call 64; go_split_ands; (refine (HR.out B _ A D s' hb1).mono ?_); rintro e wg2 ⟨rfl, hb2, ho2⟩)))
  go_wp2
  go_ret
  exact ⟨rfl, s', Ls, hs, vq, vh, H.out.with hb2 hp hbl ((HLd.out.own ho1).own ho2).r, by omega, by omega, only2 HX.out ho1 ho2⟩
set_option maxHeartbeats 3200000 in
set_option maxRecDepth 100000 in
theorem nodes_set {B : Nat → Prop} {w : World} {W A D : Nat} {s : Ar} {Ls : List (List Nat)} {hs : List Hd} {vq vh : Value} (h : Wl B w W A D s Ls hs vq vh) (o : Opv) (i l : Nat) (hi : i < 4294967296) (hn : Ls.length ≤ 4194304) (hk : o.kind = 3) (hv64 : I64 o.value) :
    Calls Try.prog 30 #[.pointer (some ⟨W, 0, none⟩), .agg (ocs o), hv i l] w fun e w' => e = .returned (.bool true) ∧ Done B w W A D Ls hs w' := by
  obtain ⟨kind, queue, which, value, raw, ix, life⟩ := o
  simp only at hk hv64
  subst hk
  obtain ⟨f, s', hp, hqs, PCd, RCd⟩ := set_both h.pl hn (l := l) (n := value) hi hv64
  have hbl : blks s' = blks s := by unfold blks; rw [hqs]
  have HL := Lib.hid (wb_lw h ⟨3, queue, which, value, raw, ix, life⟩ i l)
  have HB := Lib.hid (h.both.nil (wb_nil w ⟨3, queue, which, value, raw, ix, life⟩ i l))
  have HX := Lib.hid (wb_nil w ⟨3, queue, which, value, raw, ix, life⟩ i l)
  have HP := Lib.hid PCd
  have HR := Lib.hid RCd
  have HSof := Lib.hid (fun X (hx : Lw w X W A D (blks s) hs vq vh ⟨3, queue, which, value, raw, ix, life⟩ i l) => And.intro hx.cells hx)
  have H := Lib.hid h
  unfold Lc at HSof
  have HT := Lib.hid (fun W0 => thing_any value W0 hv64)
  clear h PCd RCd
  show Calls _ _ #[.pointer (some ⟨W, 0, none⟩), .agg #[.int .i64 3, .int .i64 queue, .int .i64 which, .int .i64 value, .bool raw, .int .u32 ix, .int .u32 life], .agg #[.int .u32 i, .int .u32 l]] _ _
  go_enter Try.func30, Try.ntmps30
  go_wp2
  change Code.wp _ _ _ _ (wb w ⟨3, queue, which, value, raw, ix, life⟩ i l)
  generalize wb w ⟨3, queue, which, value, raw, ix, life⟩ i l = X at *
  obtain ⟨hW1, hW2, hW3⟩ := HL.out.lt
  have HLd := Lib.hid (HL.out.nil (Only.refl _ _).drew)
  have HBd := Lib.hid (HB.out.nil (Only.refl _ _).drew)
  go_region_held3 (fun w' => (w'.cell? ⟨W, 0, none⟩ = some (.pointer (some ⟨A, 0, none⟩)) ∧ w'.cell? ⟨W, 1, none⟩ = some vq ∧ w'.cell? ⟨W, 2, none⟩ = some (.pointer (some ⟨D, 0, none⟩)) ∧ w'.cell? ⟨W, 3, none⟩ = some vh ∧
      w'.cell? ⟨w.heap.size, 0, none⟩ = some (.int .i64 3) ∧ w'.cell? ⟨w.heap.size, 1, none⟩ = some (.int .i64 queue) ∧ w'.cell? ⟨w.heap.size, 3, none⟩ = some (.int .i64 value) ∧
      w'.cell? ⟨w.heap.size + 1, 0, none⟩ = some (.int .u32 i) ∧ w'.cell? ⟨w.heap.size + 1, 1, none⟩ = some (.int .u32 l)) ∧ Lw w w' W A D (blks s) hs vq vh ⟨3, queue, which, value, raw, ix, life⟩ i l)
    (first | exact HSof.out _ HLd.out | exact HSof.out _ (Lw.own (by assumption) ho1) | exact HSof.out _ (Lw.own (by assumption) ho2) | exact HSof.out _ (Lw.nil (by assumption) hot))
    ((first
      | (go_at_call 62; go_split_ands; (refine (HT.out _).mono ?_); rintro e wt ⟨rfl, hot⟩)
      | (go_at_call 65; go_split_ands; (refine (HP.out B _ A D (refOf s Ls) (HBd.out.nil hot)).mono ?_); rintro e wg1 ⟨rfl, hb1, ho1⟩)
      | (go_at_call 66; go_split_ands; (refine (HR.out B _ A D s' hb1).mono ?_); rintro e wg2 ⟨rfl, hb2, ho2⟩)))
  go_wp2
  go_ret
  exact ⟨rfl, s', Ls, hs, vq, vh, H.out.with hb2 hp hbl (((HLd.out.nil hot).own ho1).own ho2).r, by omega, by omega,
    (((HX.out.drew.trans hot (fun _ _ h => h)).mono (T := B) (fun _ _ h => h.elim)).trans ho1 (fun _ _ h => h.1)).trans ho2 (fun _ _ h => h.1)⟩
end Al
end Go.Proofs.Ytnhedhmffgaohaa
