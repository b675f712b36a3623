/- The law's nodes: Take, Get, another queue. -/
import Derived.Test.YtnhedhmffgaohaaAlN
import Derived.Deep.CutRange
import Derived.Deep.CutBlock
import Derived.Deep.RegionLaw
namespace Go.Proofs.Ytnhedhmffgaohaa
open Go.RowKit
namespace Al
open Rfw (RfRep RfIs RStep Rp RfD tR tP tS ob_eq)
open ArT (ArRep ArD tA tN tQ tI tH tT)
open Go.Proofs.Ytnhedhmffgaohaa.Or (Opv)

theorem infoQp : (Try.prog.info? tQp).map (fun i => (i.zero, i.size, i.bytes)) = some (some (.pointer none), 1, 8) := by kernel_rfl
theorem Both.blks_lt {B : Nat → Prop} {w : World} {A D : Nat} {s : Ar} {r : Rf} (h : Both B w A D s r) : ∀ b ∈ blks s, b < w.heap.size := fun b hb => by
  obtain ⟨vn, vf, p, h1, _⟩ := h
  obtain ⟨q, hq, rfl⟩ := List.mem_map.1 hb
  exact blk_lt (h1.q q hq)

/-! ### Begin -/
set_option maxHeartbeats 3200000 in
set_option maxRecDepth 100000 in
theorem nodes_begin {B : Nat → Prop} {w : World} {W A D : Nat} {s : Ar} {Ls : List (List Nat)} {hs : List Hd} {vq vh : Value} (h : Wl B w W A D s Ls hs vq vh) (o : Opv) (i l : Nat) (hn : Ls.length < 4194304) (hk : o.kind = 10) :
    Calls Try.prog 30 #[.pointer (some ⟨W, 0, none⟩), .agg (ocs o), hv i l] w fun e w' => e = .returned (.bool true) ∧ Done B w W A D Ls hs w' := by
  obtain ⟨kind, queue, which, value, raw, ix, life⟩ := o
  simp only at hk
  subst hk
  obtain ⟨PQ, RQ⟩ := queue_both h.pl (Nat.le_of_lt hn)
  have hlw := wb_lw h ⟨10, queue, which, value, raw, ix, life⟩ i l
  have hbb := h.both.nil (wb_nil w ⟨10, queue, which, value, raw, ix, life⟩ i l)
  have HX := Lib.hid (wb_nil w ⟨10, queue, which, value, raw, ix, life⟩ i l)
  have HP := Lib.hid PQ
  have HR := Lib.hid RQ
  have hbn : (blks s).length = Ls.length := by unfold blks; rw [List.length_map, h.pl.len]
  have hbn4 : (blks s).length < 4194304 := by omega
  have Hbn := Lib.hid hbn
  clear hbn
  obtain ⟨i0, hi0, hz0, hz1, hz2⟩ := info_parts infoQp
  obtain ⟨A1, c1, e1, hc1⟩ := own_slice h.r.q
  subst e1
  have H := Lib.hid h
  clear h PQ RQ
  show Calls _ _ #[.pointer (some ⟨W, 0, none⟩), .agg #[.int .i64 10, .int .i64 queue, .int .i64 which, .int .i64 value, .bool raw, .int .u32 ix, .int .u32 life], .agg #[.int .u32 i, .int .u32 l]] _ _
  have hc := hlw.cells
  obtain ⟨k0, _, _, _, _, _, _, _, _⟩ := hc
  have hlt := hlw.lt.1
  unfold wb ocs at k0 hlt
  have HLw := Lib.hid hlw
  have HBb := Lib.hid hbb
  clear hlw hbb
  go_enter Try.func30, Try.ntmps30
  go_wp2_with fail
  refine (HP.out B (wb w ⟨10, queue, which, value, raw, ix, life⟩ i l) A D (refOf s Ls) HBb.out).mono ?_
  generalize wb w ⟨10, queue, which, value, raw, ix, life⟩ i l = X at *
  rintro e w1 ⟨rfl, hb1, hp1, ho1, hlt1⟩
  have hbX : X.heap.size ∉ blks s := fun hm => by have := HBb.out.blks_lt _ hm; omega
  have hlw1 := HLw.out.nil ho1
  obtain ⟨_, k1, _, _, _, _, _, _, _⟩ := hlw1.cells
  have hW1 := hlw1.lt.1
  have HRX := Lib.hid (HR.out X.heap.size hbX)
  have Hw1 := Lib.hid hlw1
  have Hb1 := Lib.hid hb1
  have Hp1 := Lib.hid hp1
  have Ho1 := Lib.hid ho1
  clear hlw1 hb1 hp1 ho1 k0 hlt
  go_wp2_with (at_builtin; (refine wpList_append_lies _ rfl (.tmp 107) (.tmp 109) _ rfl 0 tQp i0 _ 1 8 Try.underlying56 hi0 hz0 hz1 hz2 rfl (by omega) (.slice A1 (blks s).length c1) (blks s).length ((blks s).map qp) rfl (Hw1.out.r.q.alloc _) ⟨w1.heap.size, 0, none⟩ 1 1 [.pointer (some ⟨X.heap.size, 0, none⟩)] rfl rfl (World.news_of_block (blk_new' _ _ _ (by simp))) (by simp [Value.oneCell']) (by omega) (by unfold maxLen; omega) (by omega) (by omega) _ rfl ?_); intro f cap w2 hown hgrow hat hlt2; have ho2 := (Only.refl (fun b => (Value.slice A1 (blks s).length c1).ownBlock = some b) _).grown hgrow (fun k hk _ => hk); have hd2 := ho2.blk (blk_alloc Hw1.out.r.blk (.cells #[.pointer (some ⟨X.heap.size, 0, none⟩)] tQp)) (own_blk_ne Hw1.out.r.q Hw1.out.r.blk (by decide)); have hE1 := blk_cell hd2 1; have hE2 := blk_cell hd2 2; have hEf := blk_frozen hd2 1; have hElt := blk_lt hd2; simp only [List.getElem?_toArray, List.getElem?_cons_zero, List.getElem?_cons_succ] at hE1 hE2)
  have oq : Only (fun b => b = W ∨ (Value.slice A1 (blks s).length c1).ownBlock = some b) w1 (w2.setCell ⟨W, 1, none⟩ (.slice (some ⟨f, 0, none⟩) ((blks s).length + 1) cap)) :=
    ((((Only.refl _ w1).alloc (.cells #[.pointer (some ⟨X.heap.size, 0, none⟩)] tQp)).grown hgrow (fun k hk _ => .inr hk)).setCell (p := ⟨W, 1, none⟩) (.inl (.inl rfl)) _)
  have hty : ∀ b, (b = W ∨ (Value.slice A1 (blks s).length c1).ownBlock = some b) → ∃ t, Ty w1 b t ∧ ¬ Kind t := fun b hb => by
    rcases hb with rfl | hb
    · exact ⟨tW, blk_ty Hw1.out.r.blk, kW⟩
    · exact ⟨tQp, own_ty Hw1.out.r.q hb, kQp⟩
  have hb3 := Hb1.out.apart oq hty
  have hWf : (Value.slice (some ⟨f, 0, none⟩) ((blks s).length + 1) cap).ownBlock ≠ some W := own_blk_ne hown hd2 (by decide)
  have r3 : Wr (w2.setCell ⟨W, 1, none⟩ (.slice (some ⟨f, 0, none⟩) ((blks s).length + 1) cap)) W A D (blks s ++ [X.heap.size]) hs (.slice (some ⟨f, 0, none⟩) ((blks s).length + 1) cap) vh := by
    refine ⟨blk_set hd2 1 _, ?_, own_apart Hw1.out.r.h.own oq (fun b hb => ?_)⟩
    · have := own_far hown (p := ⟨W, 1, none⟩) hWf (.slice (some ⟨f, 0, none⟩) ((blks s).length + 1) cap)
      simpa [qp] using this
    · rcases hb with rfl | hb
      · exact ⟨tW, blk_ty Hw1.out.r.blk, by decide⟩
      · exact ⟨tQp, own_ty Hw1.out.r.q hb, by decide⟩
  have hqB : ∀ b, (Value.slice (some ⟨f, 0, none⟩) ((blks s).length + 1) cap).ownBlock = some b → B b := fun b hb => by
    rw [← ob_eq hb]
    rcases hat with e | e
    · exact H.out.qB f e
    · simp at e
      exact HBb.out.up f (by omega)
  have Hb3 := Lib.hid hb3
  have R3 := Lib.hid r3
  have Oq := Lib.hid (oq.mono (T := B) (fun b _ hb => by
    rcases hb with rfl | hb
    · exact H.out.wB
    · exact H.out.qB b hb))
  have HqB := Lib.hid hqB
  clear hb3 r3 oq hty hWf hown hgrow hat hlt2 ho2 hd2 hqB
  go_wp2_with fail
  refine (HRX.out B _ A D _ Hb3.out).mono ?_
  rintro e w4 ⟨rfl, hb4, ho4⟩
  have Hb4 := Lib.hid hb4
  have Ho4 := Lib.hid ho4
  clear hb4 ho4
  go_wp2
  go_ret
  have hbl : blks { s with qs := s.qs ++ [⟨X.heap.size, -1, -1, 0, 0⟩] } = blks s ++ [X.heap.size] := by unfold blks; simp
  refine ⟨rfl, _, _, hs, _, vh, ⟨Hb4.out, Hp1.out, by rw [hbl]; exact R3.out.own Ho4.out, H.out.hb, H.out.wB, HqB.out, H.out.hB⟩, by simp, by omega, ?_⟩
  have o1 := (HX.out.trans Ho1.out (fun _ _ h => h)).mono (T := B) (fun _ _ h => h.elim)
  exact (o1.trans Oq.out (fun _ _ h => h)).trans Ho4.out (fun _ _ h => h.1)

/-! ### Take -/
/-- A store into a box that is younger than all these. -/
theorem Lw.fresh {w X wg w' : World} {W A D b : Nat} {bl : List Nat} {hs : List Hd} {vq vh : Value} {o : Opv} {i l : Nat} (h0 : Lw w X W A D bl hs vq vh o i l) (h : Lw w wg W A D bl hs vq vh o i l) (hb : X.heap.size ≤ b) (ho : Only (fun k => k = b) wg w') : Lw w w' W A D bl hs vq vh o i l := by
  obtain ⟨h1, h2, h3⟩ := h0.lt
  exact ⟨h.r.only ho (by omega) (fun k hk => by have := own_lt h0.r.q hk; omega) (fun k hk => by have := own_lt h0.r.h.own hk; omega), ho.blk h.b4 (by omega), ho.blk h.b5 (by omega)⟩
theorem Both.box {B : Nat → Prop} {b : Nat} {w w' : World} {A D : Nat} {s : Ar} {r : Rf} {cs : Array Value} (h : Both B w A D s r) (hb : w.heap[b]? = some (.cells cs tH (0, 0))) (ho : Only (fun k => k = b) w w') : Both B w' A D s r :=
  h.apart ho fun k hk => ⟨tH, by rw [hk]; exact blk_ty hb, kH⟩
theorem set2 {w : World} {b : Nat} {x y u v : Value} (h : w.heap[b]? = some (.cells #[u, v] tH (0, 0))) : ((w.setCell ⟨b, 0, none⟩ x).setCell ⟨b, 1, none⟩ y).heap[b]? = some (.cells #[x, y] tH (0, 0)) := blk_set (blk_set h 0 x) 1 y
theorem only_set2 (w : World) (b : Nat) (x y : Value) : Only (fun k => k = b) w ((w.setCell ⟨b, 0, none⟩ x).setCell ⟨b, 1, none⟩ y) := ((Only.refl (fun k => k = b) w).setCell (p := ⟨b, 0, none⟩) (.inl rfl) _).setCell (p := ⟨b, 1, none⟩) (.inl rfl) _
abbrev zbox : Obj := .cells #[.int .u32 0, .int .u32 0] tH

set_option maxHeartbeats 6400000 in
set_option maxRecDepth 100000 in
theorem nodes_take {B : Nat → Prop} {w : World} {W A D : Nat} {s : Ar} {Ls : List (List Nat)} {hs : List Hd} {vq vh : Value} (h : Wl B w W A D s Ls hs vq vh) (o : Opv) (i l : Nat) (hn : Ls.length ≤ 4194304) (hh : hs.length ≤ 4194304) (hk : o.kind = 0) (hv64 : I64 o.value) :
    Calls Try.prog 30 #[.pointer (some ⟨W, 0, none⟩), .agg (ocs o), hv i l] w fun e w' => e = .returned (.bool true) ∧ Done B w W A D Ls hs w' := by
  obtain ⟨kind, queue, which, value, raw, ix, life⟩ := o
  simp only at hk hv64
  subst hk
  obtain ⟨x, y, f, s', hp, hqs, hx, hy, PCd, RCd⟩ := take_both h.pl hn hv64
  have hbl : blks s' = blks s := by unfold blks; rw [hqs]
  have HL := Lib.hid (wb_lw h ⟨0, queue, which, value, raw, ix, life⟩ i l)
  have HB := Lib.hid (h.both.nil (wb_nil w ⟨0, queue, which, value, raw, ix, life⟩ i l))
  have HX := Lib.hid (wb_nil w ⟨0, queue, which, value, raw, ix, life⟩ i l)
  have HP := Lib.hid PCd
  have HR := Lib.hid RCd
  have HSof := Lib.hid (fun X (hx : Lw w X W A D (blks s) hs vq vh ⟨0, queue, which, value, raw, ix, life⟩ i l) => And.intro hx.cells hx)
  have HT := Lib.hid (fun W0 => thing_any value W0 hv64)
  have H := Lib.hid h
  unfold Lc at HSof
  unfold hv thv at HP
  unfold hv at HR
  unfold thv at HT
  clear h PCd RCd
  show Calls _ _ #[.pointer (some ⟨W, 0, none⟩), .agg #[.int .i64 0, .int .i64 queue, .int .i64 which, .int .i64 value, .bool raw, .int .u32 ix, .int .u32 life], .agg #[.int .u32 i, .int .u32 l]] _ _
  go_enter Try.func30, Try.ntmps30
  go_upto_region 3 with fail
  go_cut [7, 8] from 18 to 160 (fun v7 v8 wc => ∃ b7 : Nat, v7 = .pointer (some ⟨b7, 0, none⟩) ∧ v8 = .int .i64 f ∧ Hid (wc.heap[b7]? = some (.cells #[.int .u32 x, .int .u32 y] tH (0, 0))) ∧ Hid (Both B wc A D s' (refOf s Ls)) ∧ Hid (Lw w wc W A D (blks s) hs vq vh ⟨0, queue, which, value, raw, ix, life⟩ i l) ∧ Hid (Only B w wc) ∧ Hid (vh.ownBlock ≠ some b7))
  case first =>
    go_wp2
    change Code.wp _ _ _ _ (wb w ⟨0, queue, which, value, raw, ix, life⟩ i l)
    generalize wb w ⟨0, queue, which, value, raw, ix, life⟩ i l = X at *
    obtain ⟨hW1, hW2, hW3⟩ := HL.out.lt
    have HLd := Lib.hid (HL.out.nil (Only.refl _ _).drew)
    have HBd := Lib.hid (HB.out.nil (Only.refl _ _).drew)
    go_region_held3 (fun w' => (w'.cell? ⟨W, 0, none⟩ = some (.pointer (some ⟨A, 0, none⟩)) ∧ w'.cell? ⟨W, 1, none⟩ = some vq ∧ w'.cell? ⟨W, 2, none⟩ = some (.pointer (some ⟨D, 0, none⟩)) ∧ w'.cell? ⟨W, 3, none⟩ = some vh ∧
      w'.cell? ⟨w.heap.size, 0, none⟩ = some (.int .i64 0) ∧ w'.cell? ⟨w.heap.size, 1, none⟩ = some (.int .i64 queue) ∧ w'.cell? ⟨w.heap.size, 3, none⟩ = some (.int .i64 value) ∧
      w'.cell? ⟨w.heap.size + 1, 0, none⟩ = some (.int .u32 i) ∧ w'.cell? ⟨w.heap.size + 1, 1, none⟩ = some (.int .u32 l)) ∧ Lw w w' W A D (blks s) hs vq vh ⟨0, queue, which, value, raw, ix, life⟩ i l)
      (first | exact HSof.out _ HLd.out | exact HSof.out _ (HLd.out.nil ((Only.refl _ _).alloc _)) | exact HSof.out _ (HL.out.nil (((Only.refl _ _).alloc _).drew)) | exact HSof.out _ (Lw.nil (by assumption) hot) | exact HSof.out _ (Lw.own (by assumption) ho1) | exact HSof.out _ ((Lw.own (HLd.out.nil hot) ho1).nil ((Only.refl _ _).alloc _)) | (go_split_ands; exact HSof.out _ (Lw.nil (by assumption) ((Only.refl _ _).alloc _))) | (go_split_ands; exact HSof.out _ (Lw.fresh HL.out (by assumption) hX7 (only_set2 _ _ _ _))))
      ((first
      | (go_at_call 62; go_split_ands; (refine (HT.out _).mono ?_); rintro e wt ⟨rfl, hot⟩)
      | (go_at_call 61; go_split_ands; (refine (HP.out B _ A D (refOf s Ls) (HBd.out.nil hot)).mono ?_); rintro e wg1 ⟨rfl, hb1, ho1⟩)
      | (go_at_call 61; go_split_ands; (refine (HP.out B _ A D (refOf s Ls) (HBd.out.nil (hot.alloc _))).mono ?_); rintro e wg1 ⟨rfl, hb1, ho1⟩; have hX7 := hot.size; have hbx := blk_apart (blk_new wt zbox) ho1 (own_ne kH); have hC0 := blk_cell hbx 0; have hC1 := blk_cell hbx 1; have hCf := (fun k => blk_frozen hbx k); have hCl := blk_lt hbx; simp only [List.getElem?_toArray, List.getElem?_cons_zero, List.getElem?_cons_succ] at hC0 hC1)
      | (go_at_call 61; go_split_ands; (refine (HP.out B _ A D (refOf s Ls) (HB.out.nil ((((Only.refl Nil _).alloc zbox).drew).trans hot (fun _ _ h => h)))).mono ?_); rintro e wg1 ⟨rfl, hb1, ho1⟩; have hX7 := Nat.le_refl X.heap.size; have hbx := blk_apart (hot.blk (blk_drew (blk_new X zbox)) (fun h => h)) ho1 (own_ne kH); have hC0 := blk_cell hbx 0; have hC1 := blk_cell hbx 1; have hCf := (fun k => blk_frozen hbx k); have hCl := blk_lt hbx; simp only [List.getElem?_toArray, List.getElem?_cons_zero, List.getElem?_cons_succ] at hC0 hC1)))
    · go_wp2
      go_meet
      case rel =>
        exact ⟨_, rfl, rfl, Lib.hid (blk_new _ _), Lib.hid (hb1.nil ((Only.refl _ _).alloc _)), Lib.hid (((HLd.out.nil hot).own ho1).nil ((Only.refl _ _).alloc _)),
          Lib.hid ((((HX.out.drew.trans hot (fun _ _ h => h)).mono (T := B) (fun _ _ h => h.elim)).trans ho1 (fun _ _ h => h.1)).alloc _), Lib.hid (fun e => by have h1 : X.heap.size ≤ wt.heap.size := hot.size; have h2 := ho1.size; have h3 := own_lt HL.out.r.h.own e; omega)⟩
    · go_wp2
      go_meet
      case rel =>
        refine ⟨_, rfl, rfl, Lib.hid (set2 hbx), Lib.hid (hb1.box hbx (only_set2 _ _ _ _)), Lib.hid (Lw.fresh HL.out ((HLd.out.nil (hot.alloc zbox)).own ho1) hX7 (only_set2 _ _ _ _)), Lib.hid ?_, Lib.hid (fun e => by have h1 : X.heap.size ≤ wt.heap.size := hX7; have h3 := own_lt HL.out.r.h.own e; omega)⟩
        refine (((((HX.out.drew.trans hot (fun _ _ h => h)).alloc zbox).mono (T := B) (fun _ _ h => h.elim)).trans ho1 (fun _ _ h => h.1))).trans (only_set2 _ _ _ _) (fun k hk e => ?_)
        have h1 := HX.out.size
        have h2 : X.heap.size ≤ wt.heap.size := hX7
        omega
    · go_wp2
      go_meet
      case rel =>
        refine ⟨_, rfl, rfl, Lib.hid (set2 hbx), Lib.hid (hb1.box hbx (only_set2 _ _ _ _)), Lib.hid (Lw.fresh HL.out ((HL.out.nil ((((Only.refl Nil _).alloc zbox).drew).trans hot (fun _ _ h => h))).own ho1) hX7 (only_set2 _ _ _ _)), Lib.hid ?_, Lib.hid (fun e => by have h3 := own_lt HL.out.r.h.own e; omega)⟩
        refine ((((HX.out.trans ((((Only.refl Nil _).alloc zbox).drew).trans hot (fun _ _ h => h)) (fun _ _ h => h)).mono (T := B) (fun _ _ h => h.elim)).trans ho1 (fun _ _ h => h.1))).trans (only_set2 _ _ _ _) (fun k hk e => ?_)
        have h1 := HX.out.size
        omega
  case rest =>
    obtain ⟨b7, rfl, rfl, h7, hb, hl, ho, hv7⟩ := hcut
    clear HX HL HB HP HT
    go_upto_region 4 with fail
    go_cut [9, 10] from 18 to 160 (fun v9 v10 wd => ∃ b9 : Nat, v9 = .pointer (some ⟨b9, 0, none⟩) ∧ v10 = .int .i64 f ∧ Hid (wd.heap[b9]? = some (.cells #[.int .u32 x, .int .u32 y] tH (0, 0))) ∧ Hid (wd.heap[b7]? = some (.cells #[.int .u32 x, .int .u32 y] tH (0, 0))) ∧ Hid (Both B wd A D s' (refOf s' Ls)) ∧ Hid (Lw w wd W A D (blks s) hs vq vh ⟨0, queue, which, value, raw, ix, life⟩ i l) ∧ Hid (Only B w wd) ∧ Hid (vh.ownBlock ≠ some b9))
    case first =>
      have h7lt := blk_lt h7.out
      obtain ⟨hW1, hW2, hW3⟩ := hl.out.lt
      go_wp2
      go_region_held3 (fun w' => (w'.cell? ⟨W, 0, none⟩ = some (.pointer (some ⟨A, 0, none⟩)) ∧ w'.cell? ⟨W, 1, none⟩ = some vq ∧ w'.cell? ⟨W, 2, none⟩ = some (.pointer (some ⟨D, 0, none⟩)) ∧ w'.cell? ⟨W, 3, none⟩ = some vh ∧
        w'.cell? ⟨w.heap.size, 0, none⟩ = some (.int .i64 0) ∧ w'.cell? ⟨w.heap.size, 1, none⟩ = some (.int .i64 queue) ∧ w'.cell? ⟨w.heap.size, 3, none⟩ = some (.int .i64 value) ∧
        w'.cell? ⟨w.heap.size + 1, 0, none⟩ = some (.int .u32 i) ∧ w'.cell? ⟨w.heap.size + 1, 1, none⟩ = some (.int .u32 l)) ∧ Lw w w' W A D (blks s) hs vq vh ⟨0, queue, which, value, raw, ix, life⟩ i l)
        (first | exact HSof.out _ (hl.out.nil (Only.refl _ _).drew) | exact HSof.out _ (hl.out.nil (((Only.refl _ _).drew).alloc _)) | exact HSof.out _ (hl.out.nil (((Only.refl _ _).alloc _).drew)) | exact HSof.out _ (Lw.own (by assumption) ho1) | exact HSof.out _ ((Lw.own (hl.out.nil (Only.refl _ _).drew) ho1).nil ((Only.refl _ _).alloc _)) | (go_split_ands; exact HSof.out _ (Lw.fresh hl.out (by assumption) hX7 (only_set2 _ _ _ _))))
        ((first
        | (go_at_call 34; go_split_ands; (refine (HR.out B _ A D s' (hb.out.nil (Only.refl _ _).drew)).mono ?_); rintro e wg1 ⟨rfl, hb1, ho1⟩)
        | (go_at_call 34; go_split_ands; (refine (HR.out B _ A D s' (hb.out.nil (((Only.refl Nil _).alloc zbox).drew))).mono ?_); rintro e wg1 ⟨rfl, hb1, ho1⟩; have hX7 := Nat.le_refl wc.heap.size; have hbx := blk_apart (blk_drew (blk_new wc zbox)) ho1 (own_ne kH); have hC0 := blk_cell hbx 0; have hC1 := blk_cell hbx 1; have hCf := (fun k => blk_frozen hbx k); have hCl := blk_lt hbx; simp only [List.getElem?_toArray, List.getElem?_cons_zero, List.getElem?_cons_succ] at hC0 hC1)))
      · go_wp2
        go_meet
        case rel =>
          exact ⟨_, rfl, rfl, Lib.hid (blk_new _ _), Lib.hid (blk_alloc (blk_apart (blk_drew h7.out) ho1 (own_ne kH)) _), Lib.hid (hb1.nil ((Only.refl _ _).alloc _)), Lib.hid (((hl.out.nil (Only.refl _ _).drew).own ho1).nil ((Only.refl _ _).alloc _)), Lib.hid ((ho.out.drew.trans ho1 (fun _ _ h => h.1)).alloc _), Lib.hid (fun e => by have h1 : wc.heap.size ≤ wg1.heap.size := ho1.size; have h3 := own_lt hl.out.r.h.own e; omega)⟩
      · go_wp2
        go_meet
        case rel =>
          refine ⟨_, rfl, rfl, Lib.hid (set2 hbx), Lib.hid ((only_set2 _ _ _ _).blk (blk_apart (blk_drew (blk_alloc h7.out zbox)) ho1 (own_ne kH)) (by omega)), Lib.hid (hb1.box hbx (only_set2 _ _ _ _)), Lib.hid (Lw.fresh hl.out ((hl.out.nil (((Only.refl Nil _).alloc zbox).drew)).own ho1) hX7 (only_set2 _ _ _ _)), Lib.hid ?_, Lib.hid (fun e => by have h3 := own_lt hl.out.r.h.own e; omega)⟩
          refine (((ho.out.alloc zbox).drew.trans ho1 (fun _ _ h => h.1))).trans (only_set2 _ _ _ _) (fun k hk e => ?_)
          have h1 := ho.out.size
          omega
    case rest =>
      obtain ⟨b9, rfl, rfl, h9, h7', hb', hl', ho', hv9⟩ := hcut
      clear h7 hb hl ho HR
      obtain ⟨hW1, hW2, hW3⟩ := hl'.out.lt
      have p0 := blk_cell h7'.out 0
      have p1 := blk_cell h7'.out 1
      have pl := blk_lt h7'.out
      have q0 := blk_cell h9.out 0
      have q1 := blk_cell h9.out 1
      have ql := blk_lt h9.out
      simp only [List.getElem?_toArray, List.getElem?_cons_zero, List.getElem?_cons_succ] at p0 p1 q0 q1
      by_cases hf : f = 0
      · subst hf
        obtain ⟨i0, hi0, hz0, hz1, hz2⟩ := info_parts Rfw.infoH
        obtain ⟨A3, c3, e3, hc3⟩ := own_slice hl'.out.r.h.own
        subst e3
        obtain ⟨_, _, _, k3, _, _, _, _, _⟩ := hl'.out.cells
        have n7 : b7 ≠ W := blk_ne h7'.out hl'.out.r.blk (by decide)
        have n9 : b9 ≠ W := blk_ne h9.out hl'.out.r.blk (by decide)
        have n7' := n7.symm
        have n9' := n9.symm
        go_wp2
        go_region_law
          ((refine step_append_lies _ (by rfl) _ _ _ (by rfl) 0 tH i0 _ 2 8 Try.underlying27 hi0 hz0 hz1 hz2 rfl (by omega) (.slice A3 hs.length c3) hs.length _ (by rfl) ((hl'.out.r.h.own.alloc _).drew) ⟨wc.heap.size, 0, none⟩ 1 1 (Hd.cells ⟨x, y⟩) (by rfl) (by rfl) (World.news_of_block (cs := #[.int .u32 x, .int .u32 y]) (t := tH) (fr := (0, 0)) (heap_alloc_new wc _)) (by simp [Hd.cells, Value.oneCell']) (by omega) (by unfold maxLen; omega) (by omega) (by omega) (wc.heap.size + 1) (by simp) ?_; intro f cap w3 hown3 hgrow hat hlt; have ho3 := (Only.refl (fun b => (Value.slice A3 hs.length c3).ownBlock = some b) _).grown hgrow (fun k hk _ => hk); have hd3 := ho3.blk (blk_drew (blk_alloc hl'.out.r.blk (.cells #[.int .u32 x, .int .u32 y] tH))) (own_blk_ne hl'.out.r.h.own hl'.out.r.blk (by decide)); have hE3 := blk_cell hd3 3; have hEf := blk_frozen hd3 3; have hElt := blk_lt hd3; have s7 := ho3.blk (blk_drew (blk_alloc h7'.out (.cells #[.int .u32 x, .int .u32 y] tH))) hv7.out; have s9 := ho3.blk (blk_drew (blk_alloc h9.out (.cells #[.int .u32 x, .int .u32 y] tH))) hv9.out; have s70 := blk_cell s7 0; have s71 := blk_cell s7 1; have s7l := blk_lt s7; have s90 := blk_cell s9 0; have s91 := blk_cell s9 1; have s9l := blk_lt s9; simp only [List.getElem?_toArray, List.getElem?_cons_zero, List.getElem?_cons_succ] at hE3 s70 s71 s90 s91; clear s7 s9))
        all_goals
          have ho3 := (Only.refl (fun b => (Value.slice A3 hs.length c3).ownBlock = some b) _).grown hgrow (fun k hk _ => hk)
          have ofin : Only (fun b => b = W ∨ (Value.slice A3 hs.length c3).ownBlock = some b) wc (w3.setCell ⟨W, 3, none⟩ (.slice (some ⟨f, 0, none⟩) (hs.length + 1) cap)) :=
            (((((Only.refl _ wc).alloc (.cells #[.int .u32 x, .int .u32 y] tH)).drew).grown hgrow (fun k hk _ => .inr hk)).setCell (p := ⟨W, 3, none⟩) (.inl (.inl rfl)) _)
          have hd3 := ho3.blk (blk_drew (blk_alloc hl'.out.r.blk (.cells #[.int .u32 x, .int .u32 y] tH))) (own_blk_ne hl'.out.r.h.own hl'.out.r.blk (by decide))
          have hWf : (Value.slice (some ⟨f, 0, none⟩) (hs.length + 1) cap).ownBlock ≠ some W := own_blk_ne hown3 hd3 (by decide)
          have hty : ∀ b, (b = W ∨ (Value.slice A3 hs.length c3).ownBlock = some b) → ∃ t, Ty wc b t ∧ (t = tW ∨ t = tH) := fun b hb => by
            rcases hb with rfl | hb
            · exact ⟨tW, blk_ty hl'.out.r.blk, .inl rfl⟩
            · exact ⟨tH, own_ty hl'.out.r.h.own hb, .inr rfl⟩
          have hb3 := hb'.out.apart ofin (fun b hb => by
            obtain ⟨t, ht, e⟩ := hty b hb
            exact ⟨t, ht, by rcases e with rfl | rfl; exact kW; exact kH⟩)
          have r3 : Wr (w3.setCell ⟨W, 3, none⟩ (.slice (some ⟨f, 0, none⟩) (hs.length + 1) cap)) W A D (blks s) (hs ++ [⟨x, y⟩]) vq (.slice (some ⟨f, 0, none⟩) (hs.length + 1) cap) := by
            refine ⟨blk_set hd3 3 _, own_apart hl'.out.r.q ofin (fun b hb => ?_), ?_⟩
            · obtain ⟨t, ht, e⟩ := hty b hb
              exact ⟨t, ht, by rcases e with rfl | rfl <;> decide⟩
            · have := own_far hown3 (p := ⟨W, 3, none⟩) hWf (.slice (some ⟨f, 0, none⟩) (hs.length + 1) cap)
              unfold HRow
              simpa using this
          have p7 : (w3.setCell ⟨W, 3, none⟩ (.slice (some ⟨f, 0, none⟩) (hs.length + 1) cap)).heap.size = w3.heap.size := by simp
          have hfB : B f := by
            rcases hat with e | e
            · exact H.out.hB f e
            · have h1 := ho'.out.size
              exact H.out.both.up f (by omega)
          have Hb3 := Lib.hid hb3
          have R3 := Lib.hid r3
          have Of := Lib.hid (ho'.out.trans ofin (fun b _ hb => by
            rcases hb with rfl | hb
            · exact H.out.wB
            · exact H.out.hB b hb))
          clear ho3 ofin hd3 hWf hty hb3 r3 p7 hown3 hgrow
          go_wp2
          go_ret
          exact ⟨rfl, s', Ls, _, vq, _, ⟨Hb3.out, hp, by rw [hbl]; exact R3.out, fun z hz => by
            rcases List.mem_append.1 hz with e | e
            · exact H.out.hb z e
            · simp at e; subst e; exact ⟨hx, hy⟩, H.out.wB, H.out.qB, fun b hb => by rw [← ob_eq hb]; exact hfB⟩, by omega, by simp, Of.out⟩
      · have hne : (f == 0) = false := beq_eq_false_iff_ne.2 hf
        clear hf
        go_wp2
        go_ret
        exact ⟨rfl, s', Ls, hs, vq, vh, H.out.with hb'.out hp hbl hl'.out.r, by omega, by omega, ho'.out⟩
end Al
end Go.Proofs.Ytnhedhmffgaohaa
