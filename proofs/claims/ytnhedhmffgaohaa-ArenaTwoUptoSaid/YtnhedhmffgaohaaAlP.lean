/- The law's nodes: Get. -/
import Derived.Test.YtnhedhmffgaohaaAlO
namespace Go.Proofs.Ytnhedhmffgaohaa
open Go.RowKit
namespace Al
open Rfw (RfRep RfIs RStep Rp RfD tR tP tS ob_eq)
open ArT (ArRep ArD tA tN tQ tI tH tT zstr)
open Go.Proofs.Ytnhedhmffgaohaa.Or (Opv)
theorem kT : ¬ Kind tT := by unfold Kind; decide
theorem Both.boxT {B : Nat → Prop} {b : Nat} {w w' : World} {A D : Nat} {s : Ar} {r : Rf} {cs : Array Value} (h : Both B w A D s r) (hb : w.heap[b]? = some (.cells cs tT (0, 0))) (ho : Only (fun k => k = b) w w') : Both B w' A D s r :=
  h.apart ho fun k hk => ⟨tT, by rw [hk]; exact blk_ty hb, kT⟩
abbrev zboxT : Obj := .cells #[.int .i64 0, .string zstr] tT
theorem set2T {w : World} {b : Nat} {x y u v : Value} (h : w.heap[b]? = some (.cells #[u, v] tT (0, 0))) : ((w.setCell ⟨b, 0, none⟩ x).setCell ⟨b, 1, none⟩ y).heap[b]? = some (.cells #[x, y] tT (0, 0)) := blk_set (blk_set h 0 x) 1 y

set_option maxHeartbeats 6400000 in
set_option maxRecDepth 100000 in
theorem nodes_get0 {B : Nat → Prop} {w : World} {W A D : Nat} {s : Ar} {Ls : List (List Nat)} {hs : List Hd} {vq vh : Value} (h : Wl B w W A D s Ls hs vq vh) (o : Opv) (i l : Nat) (hk0 : o.kind ≠ 0) (hk1 : o.kind ≠ 1) (hk3 : o.kind ≠ 3) (hk10 : o.kind ≠ 10)
    (n : Int) (st : ByteArray) (m f : Int)
    (HP : Hid (PC 69 (fun A => #[.pointer (some ⟨A, 0, none⟩), .agg #[.int .u32 (i : Int), .int .u32 (l : Int)]]) (.returned (.tuple #[.agg #[.int .i64 n, .string st], .int .i64 f])) s s))
    (HR : Hid (RC 35 (fun D => #[.pointer (some ⟨D, 0, none⟩), .agg #[.int .u32 (i : Int), .int .u32 (l : Int)]]) (.returned (.tuple #[.int .i64 m, .int .i64 f])) (refOf s Ls) (refOf s Ls)))
    (hc : f = 50 ∧ n = 0 ∧ st = zstr ∨ f = 0 ∧ n = m ∧ st = thS m ∧ I64 m) :
    Calls Try.prog 30 #[.pointer (some ⟨W, 0, none⟩), .agg (ocs o), hv i l] w fun e w' => e = .returned (.bool true) ∧ Done B w W A D Ls hs w' := by
  obtain ⟨kind, queue, which, value, raw, ix, life⟩ := o
  simp only at hk0 hk1 hk3 hk10
  have e0 : (kind == 0) = false := beq_eq_false_iff_ne.2 hk0
  have e1 : (kind == 1) = false := beq_eq_false_iff_ne.2 hk1
  have e3 : (kind == 3) = false := beq_eq_false_iff_ne.2 hk3
  have e10 : (kind == 10) = false := beq_eq_false_iff_ne.2 hk10
  have HL := Lib.hid (wb_lw h ⟨kind, queue, which, value, raw, ix, life⟩ i l)
  have HB := Lib.hid (h.both.nil (wb_nil w ⟨kind, queue, which, value, raw, ix, life⟩ i l))
  have HX := Lib.hid (wb_nil w ⟨kind, queue, which, value, raw, ix, life⟩ i l)
  have HSof := Lib.hid (fun X (hx : Lw w X W A D (blks s) hs vq vh ⟨kind, queue, which, value, raw, ix, life⟩ i l) => And.intro hx.cells hx)
  have H := Lib.hid h
  have Hc := Lib.hid hc
  unfold Lc at HSof
  clear h hc hk0 hk1 hk3 hk10
  show Calls _ _ #[.pointer (some ⟨W, 0, none⟩), .agg #[.int .i64 kind, .int .i64 queue, .int .i64 which, .int .i64 value, .bool raw, .int .u32 ix, .int .u32 life], .agg #[.int .u32 i, .int .u32 l]] _ _
  go_enter Try.func30, Try.ntmps30
  go_upto_region 17 with fail
  go_cut [12, 13] from 18 to 160 (fun v12 v13 wc => ∃ b12 : Nat, v12 = .pointer (some ⟨b12, 0, none⟩) ∧ v13 = .int .i64 f ∧ Hid (wc.heap[b12]? = some (.cells #[.int .i64 n, .string st] tT (0, 0))) ∧ Hid (Both B wc A D s (refOf s Ls)) ∧ Hid (Lw w wc W A D (blks s) hs vq vh ⟨kind, queue, which, value, raw, ix, life⟩ i l) ∧ Hid (Only B w wc))
  case first =>
    go_wp2
    change Code.wp _ _ _ _ (wb w ⟨kind, queue, which, value, raw, ix, life⟩ i l)
    generalize wb w ⟨kind, queue, which, value, raw, ix, life⟩ i l = X at *
    obtain ⟨hW1, hW2, hW3⟩ := HL.out.lt
    go_region_held3 (fun w' => (w'.cell? ⟨W, 0, none⟩ = some (.pointer (some ⟨A, 0, none⟩)) ∧ w'.cell? ⟨W, 1, none⟩ = some vq ∧ w'.cell? ⟨W, 2, none⟩ = some (.pointer (some ⟨D, 0, none⟩)) ∧ w'.cell? ⟨W, 3, none⟩ = some vh ∧
        w'.cell? ⟨w.heap.size, 0, none⟩ = some (.int .i64 kind) ∧ w'.cell? ⟨w.heap.size, 1, none⟩ = some (.int .i64 queue) ∧ w'.cell? ⟨w.heap.size, 3, none⟩ = some (.int .i64 value) ∧
        w'.cell? ⟨w.heap.size + 1, 0, none⟩ = some (.int .u32 i) ∧ w'.cell? ⟨w.heap.size + 1, 1, none⟩ = some (.int .u32 l)) ∧ Lw w w' W A D (blks s) hs vq vh ⟨kind, queue, which, value, raw, ix, life⟩ i l)
        (first | exact HSof.out _ (HL.out.nil (Only.refl _ _).drew) | exact HSof.out _ (HL.out.nil (((Only.refl _ _).drew).alloc _)) | exact HSof.out _ (HL.out.nil (((Only.refl _ _).alloc _).drew)) | exact HSof.out _ (Lw.own (by assumption) ho1) | exact HSof.out _ ((Lw.own (HL.out.nil (Only.refl _ _).drew) ho1).nil ((Only.refl _ _).alloc _)) | (go_split_ands; exact HSof.out _ (Lw.fresh HL.out (by assumption) hX7 (only_set2 _ _ _ _))))
        ((first
        | (go_at_call 69; go_split_ands; (refine (HP.out B _ A D (refOf s Ls) (HB.out.nil (Only.refl _ _).drew)).mono ?_); rintro e wg1 ⟨rfl, hb1, ho1⟩)
        | (go_at_call 69; go_split_ands; (refine (HP.out B _ A D (refOf s Ls) (HB.out.nil (((Only.refl Nil _).alloc zboxT).drew))).mono ?_); rintro e wg1 ⟨rfl, hb1, ho1⟩; have hX7 := Nat.le_refl X.heap.size; have hbx := blk_apart (blk_drew (blk_new X zboxT)) ho1 (own_ne kT); have hC0 := blk_cell hbx 0; have hC1 := blk_cell hbx 1; have hCf := (fun k => blk_frozen hbx k); have hCl := blk_lt hbx; simp only [List.getElem?_toArray, List.getElem?_cons_zero, List.getElem?_cons_succ] at hC0 hC1)))
    · go_wp2
      go_meet
      case rel =>
        exact ⟨_, rfl, rfl, Lib.hid (blk_new _ _), Lib.hid (hb1.nil ((Only.refl _ _).alloc _)), Lib.hid (((HL.out.nil (Only.refl _ _).drew).own ho1).nil ((Only.refl _ _).alloc _)), Lib.hid (((((HX.out.mono (T := B) (fun _ _ h => h.elim)).drew).trans ho1 (fun _ _ h => h.1))).alloc _)⟩
    · go_wp2
      go_meet
      case rel =>
        refine ⟨_, rfl, rfl, Lib.hid (set2T hbx), Lib.hid (hb1.boxT hbx (only_set2 _ _ _ _)), Lib.hid (Lw.fresh HL.out ((HL.out.nil (((Only.refl Nil _).alloc zboxT).drew)).own ho1) hX7 (only_set2 _ _ _ _)), Lib.hid ?_⟩
        refine (((((HX.out.mono (T := B) (fun _ _ h => h.elim)).alloc zboxT).drew.trans ho1 (fun _ _ h => h.1)))).trans (only_set2 _ _ _ _) (fun k hk e => ?_)
        have h1 := HX.out.size
        omega
  case rest =>
    obtain ⟨b12, rfl, rfl, h12, hb, hl, ho⟩ := hcut
    clear HX HL HB HP
    obtain ⟨hW1, hW2, hW3⟩ := hl.out.lt
    go_wp2
    go_region_held3 (fun w' => (w'.cell? ⟨W, 0, none⟩ = some (.pointer (some ⟨A, 0, none⟩)) ∧ w'.cell? ⟨W, 1, none⟩ = some vq ∧ w'.cell? ⟨W, 2, none⟩ = some (.pointer (some ⟨D, 0, none⟩)) ∧ w'.cell? ⟨W, 3, none⟩ = some vh ∧
        w'.cell? ⟨w.heap.size, 0, none⟩ = some (.int .i64 kind) ∧ w'.cell? ⟨w.heap.size, 1, none⟩ = some (.int .i64 queue) ∧ w'.cell? ⟨w.heap.size, 3, none⟩ = some (.int .i64 value) ∧
        w'.cell? ⟨w.heap.size + 1, 0, none⟩ = some (.int .u32 i) ∧ w'.cell? ⟨w.heap.size + 1, 1, none⟩ = some (.int .u32 l)) ∧ Lw w w' W A D (blks s) hs vq vh ⟨kind, queue, which, value, raw, ix, life⟩ i l)
        (first | exact HSof.out _ (hl.out.nil (Only.refl _ _).drew) | exact HSof.out _ (Lw.own (by assumption) ho1))
        ((first
        | (go_at_call 35; go_split_ands; (refine (HR.out B _ A D s (hb.out.nil (Only.refl _ _).drew)).mono ?_); rintro e wg1 ⟨rfl, hb1, ho1⟩)))
    have hb12 := blk_apart (blk_drew h12.out) ho1 (own_ne kT)
    have hl1 := (hl.out.nil (Only.refl _ _).drew).own ho1
    have hon1 := ho.out.drew.trans ho1 (fun _ _ h => h.1)
    have Hb1 := Lib.hid hb1
    have Hl1 := Lib.hid hl1
    have Hon1 := Lib.hid hon1
    have Hb12 := Lib.hid hb12
    have C0 := blk_cell hb12 0
    have C1 := blk_cell hb12 1
    have Cl := blk_lt hb12
    simp only [List.getElem?_toArray, List.getElem?_cons_zero, List.getElem?_cons_succ] at C0 C1
    clear hb12 hl1 hon1 hb1 ho1 hb hl ho h12 HR hW1 hW2 hW3
    go_split_ands
    rcases Hc.out with ⟨rfl, rfl, rfl⟩ | ⟨rfl, rfl, rfl, hm⟩
    · go_wp2
      go_quiet (fail)
      go_wp2
      go_ret
      exact ⟨rfl, s, Ls, hs, vq, vh, H.out.with (Hb1.out.nil ((Only.refl _ _).drewN _)) H.out.pl rfl (Hl1.out.r.nil ((Only.refl _ _).drewN _)), by omega, by omega, Hon1.out.drewN _⟩
    · have HT := Lib.hid (fun W0 => thing_any n W0 hm)
      unfold thv at HT
      have HSb := Lib.hid (fun (X : World) (hx : X.heap[b12]? = some (.cells #[.int .i64 n, .string (thS n)] tT (0, 0))) => And.intro (blk_cell hx 0) (And.intro (blk_cell hx 1) hx))
      go_wp2
      have C0d : (World.drew _).cell? ⟨b12, 0, none⟩ = some (.int .i64 n) := (HSb.out _ (blk_drew Hb12.out)).1
      have C1d : (World.drew _).cell? ⟨b12, 1, none⟩ = some (.string (thS n)) := (HSb.out _ (blk_drew Hb12.out)).2.1
      refine wp_region_any (by kernel_rfl) ?_
      change wpAny _ _ _ _ _ _ _ (World.drew _)
      refine wpAny_take (i := 0) (v := .int .i64 0) rfl (by kernel_rfl) (by kernel_rfl) (by kernel_rfl) (fun _ _ _ h => h) (Or.inl ⟨by kernel_rfl, fun w => by go_simp⟩) ?_; simp only [Act.put]
      refine wpAny_take (i := 1) (v := .int .i64 0) rfl (by kernel_rfl) (by kernel_rfl) (by kernel_rfl) (fun _ _ _ h => h) (Or.inl ⟨by kernel_rfl, fun w => by go_simp⟩) ?_; simp only [Act.put]
      refine wpAny_take (i := 2) (v := .bool true) rfl (by kernel_rfl) (by kernel_rfl) (by kernel_rfl) (fun _ _ _ h => h) (Or.inl ⟨by kernel_rfl, fun w => by go_simp⟩) ?_; simp only [Act.put]
      refine wpAny_take (i := 3) (v := .bool true) rfl (by kernel_rfl) (by kernel_rfl) (by kernel_rfl) (fun _ _ _ h => h) (Or.inl ⟨by kernel_rfl, fun w => by go_simp⟩) ?_; simp only [Act.put]
      refine wpAny_take (i := 4) (v := .int .i64 0) rfl (by kernel_rfl) (by kernel_rfl) (by kernel_rfl) (fun _ _ _ h => h) (Or.inl ⟨by kernel_rfl, fun w => by go_simp⟩) ?_; simp only [Act.put]
      refine wpAny_take (i := 5) (v := .bool false) rfl (by kernel_rfl) (by kernel_rfl) (by kernel_rfl) (fun _ _ _ h => h) (Or.inl ⟨by kernel_rfl, fun w => by go_simp⟩) ?_; simp only [Act.put]
      refine wpAny_take (i := 6) (v := .bool false) rfl (by kernel_rfl) (by kernel_rfl) (by kernel_rfl) (fun _ _ _ h => h) (Or.inl ⟨by kernel_rfl, fun w => by go_simp⟩) ?_; simp only [Act.put]
      refine wpAny_take (i := 7) (v := undef) rfl (by kernel_rfl) (by kernel_rfl) (by kernel_rfl) (fun _ _ _ h => h) (Or.inr ⟨by kernel_rfl, rfl⟩) ?_; simp only [Act.put]
      refine wpAny_take (i := 8) (v := undef) rfl (by kernel_rfl) (by kernel_rfl) (by kernel_rfl) (fun _ _ _ h => h) (Or.inr ⟨by kernel_rfl, rfl⟩) ?_; simp only [Act.put]
      refine wpAny_take (i := 9) (v := undef) rfl (by kernel_rfl) (by kernel_rfl) (by kernel_rfl) (fun _ _ _ h => h) (Or.inr ⟨by kernel_rfl, rfl⟩) ?_; simp only [Act.put]
      refine wpAny_take (i := 10) (v := .bool false) rfl (by kernel_rfl) (by kernel_rfl) (by kernel_rfl) (fun _ _ _ h => h) (Or.inl ⟨by kernel_rfl, fun w => by go_simp⟩) ?_; simp only [Act.put]
      refine wpAny_take (i := 11) (v := .bool false) rfl (by kernel_rfl) (by kernel_rfl) (by kernel_rfl) (fun _ _ _ h => h) (Or.inl ⟨by kernel_rfl, fun w => by go_simp⟩) ?_; simp only [Act.put]
      refine wpAny_take (i := 12) (v := .int .i64 0) rfl (by kernel_rfl) (by kernel_rfl) (by kernel_rfl) (fun _ _ _ h => h) (Or.inl ⟨by kernel_rfl, fun w => by go_simp⟩) ?_; simp only [Act.put]
      refine wpAny_take (i := 13) (v := .bool true) rfl (by kernel_rfl) (by kernel_rfl) (by kernel_rfl) (fun _ _ _ h => h) (Or.inl ⟨by kernel_rfl, fun w => by go_simp⟩) ?_; simp only [Act.put]
      refine wpAny_take (i := 14) (v := .bool true) rfl (by kernel_rfl) (by kernel_rfl) (by kernel_rfl) (fun _ _ _ h => h) (Or.inl ⟨by kernel_rfl, fun w => by go_simp⟩) ?_; simp only [Act.put]
      refine wpAny_take (i := 16) (v := .int .i64 n) rfl (by kernel_rfl) (by kernel_rfl) (by kernel_rfl) (fun _ _ _ h => h) (Or.inl ⟨by kernel_rfl, fun w => by go_simp⟩) ?_; simp only [Act.put]
      refine wpAny_ready (rs := [15, 17]) (by kernel_rfl) (by simp) ?_
      refine AllReady.cons rfl (fun K hK => ?_) (AllReady.cons rfl (fun K hK => ?_) AllReady.nil)
      · go_simp
        refine hK _ _ ?_
        clear hK K
        refine wpAny_ready (rs := [17]) (by kernel_rfl) (by simp) ?_
        refine AllReady.cons rfl (fun K hK => ?_) AllReady.nil
        go_simp
        go_wp2_with (go_at_call 62; (refine (HT.out _).mono ?_); rintro e wt ⟨rfl, hot⟩)
        refine wpAny_ready (rs := [18]) (by kernel_rfl) (by simp) ?_
        refine AllReady.cons rfl (fun K hK => ?_) AllReady.nil
        go_simp
        refine hK _ _ ?_
        clear hK K
        refine wpAny_ready (rs := [19]) (by kernel_rfl) (by simp) ?_
        refine AllReady.cons rfl (fun K hK => ?_) AllReady.nil
        go_simp
        refine hK _ _ ?_
        clear hK K
        refine wpAny_ready (rs := [20]) (by kernel_rfl) (by simp) ?_
        refine AllReady.cons rfl (fun K hK => ?_) AllReady.nil
        go_simp
        refine hK _ _ ?_
        clear hK K
        refine wpAny_ready (rs := [21]) (by kernel_rfl) (by simp) ?_
        refine AllReady.cons rfl (fun K hK => ?_) AllReady.nil
        go_simp
        refine hK _ _ ?_
        clear hK K
        refine wpAny_ready (rs := [22]) (by kernel_rfl) (by simp) ?_
        refine AllReady.cons rfl (fun K hK => ?_) AllReady.nil
        go_simp
        refine hK _ _ ?_
        clear hK K
        refine wpAny_done (by kernel_rfl) ?_ _
        go_wp2
        go_ret
        exact ⟨rfl, s, Ls, hs, vq, vh, H.out.with (Hb1.out.nil (((Only.refl Nil _).drew).trans hot (fun _ _ h => h))) H.out.pl rfl (Hl1.out.r.nil (((Only.refl Nil _).drew).trans hot (fun _ _ h => h))), by omega, by omega, (Hon1.out.drew).trans hot (fun _ _ h => h.elim)⟩
      · go_simp
        go_wp2_with (go_at_call 62; (refine (HT.out _).mono ?_); rintro e wt ⟨rfl, hot⟩)
        have K0 := (HSb.out _ (hot.blk (blk_drew Hb12.out) (fun h => h))).1
        have K1 := (HSb.out _ (hot.blk (blk_drew Hb12.out) (fun h => h))).2.1
        refine wpAny_ready (rs := [15]) (by kernel_rfl) (by simp) ?_
        refine AllReady.cons rfl (fun K hK => ?_) AllReady.nil
        go_simp
        refine hK _ _ ?_
        clear hK K
        refine wpAny_ready (rs := [18]) (by kernel_rfl) (by simp) ?_
        refine AllReady.cons rfl (fun K hK => ?_) AllReady.nil
        go_simp
        refine hK _ _ ?_
        clear hK K
        refine wpAny_ready (rs := [19]) (by kernel_rfl) (by simp) ?_
        refine AllReady.cons rfl (fun K hK => ?_) AllReady.nil
        go_simp
        refine hK _ _ ?_
        clear hK K
        refine wpAny_ready (rs := [20]) (by kernel_rfl) (by simp) ?_
        refine AllReady.cons rfl (fun K hK => ?_) AllReady.nil
        go_simp
        refine hK _ _ ?_
        clear hK K
        refine wpAny_ready (rs := [21]) (by kernel_rfl) (by simp) ?_
        refine AllReady.cons rfl (fun K hK => ?_) AllReady.nil
        go_simp
        refine hK _ _ ?_
        clear hK K
        refine wpAny_ready (rs := [22]) (by kernel_rfl) (by simp) ?_
        refine AllReady.cons rfl (fun K hK => ?_) AllReady.nil
        go_simp
        refine hK _ _ ?_
        clear hK K
        refine wpAny_done (by kernel_rfl) ?_ _
        go_wp2
        go_ret
        exact ⟨rfl, s, Ls, hs, vq, vh, H.out.with (Hb1.out.nil (((Only.refl Nil _).drew).trans hot (fun _ _ h => h))) H.out.pl rfl (Hl1.out.r.nil (((Only.refl Nil _).drew).trans hot (fun _ _ h => h))), by omega, by omega, (Hon1.out.drew).trans hot (fun _ _ h => h.elim)⟩
theorem nodes_get {B : Nat → Prop} {w : World} {W A D : Nat} {s : Ar} {Ls : List (List Nat)} {hs : List Hd} {vq vh : Value} (h : Wl B w W A D s Ls hs vq vh) (o : Opv) (i l : Nat) (hi : i < 4294967296) (hn : Ls.length ≤ 4194304) (hk0 : o.kind ≠ 0) (hk1 : o.kind ≠ 1) (hk3 : o.kind ≠ 3) (hk10 : o.kind ≠ 10) :
    Calls Try.prog 30 #[.pointer (some ⟨W, 0, none⟩), .agg (ocs o), hv i l] w fun e w' => e = .returned (.bool true) ∧ Done B w W A D Ls hs w' := by
  rcases get_both h.pl hn (l := l) hi with ⟨P, R⟩ | ⟨n, hn64, P, R⟩
  · exact nodes_get0 h o i l hk0 hk1 hk3 hk10 0 zstr 0 50 (Lib.hid P) (Lib.hid R) (.inl ⟨rfl, rfl, rfl⟩)
  · exact nodes_get0 h o i l hk0 hk1 hk3 hk10 n (thS n) n 0 (Lib.hid P) (Lib.hid R) (.inr ⟨rfl, rfl, rfl, hn64⟩)
end Al
end Go.Proofs.Ytnhedhmffgaohaa
