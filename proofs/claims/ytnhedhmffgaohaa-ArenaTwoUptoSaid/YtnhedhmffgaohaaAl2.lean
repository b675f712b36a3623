/- ArenaTwo: the law's walk. -/
import Derived.Test.YtnhedhmffgaohaaTw
import Derived.Test.YtnhedhmffgaohaaRow1
import Derived.StillTailTactics
namespace Go.Proofs.Ytnhedhmffgaohaa
open Go.RowKit
namespace Tw
open Rfw (RfRep RfIs RStep Rp RfD)
open Al (Wl Both Done hv)
open Go.Proofs.Ytnhedhmffgaohaa.Or (Opv IsOps)
open Row1 (IsRow)

theorem isRow_at' {w : World} {a : Option Addr} {len cap : Nat} {zs : List Int} (h : IsRow .i64 w a len cap zs) (k : Nat) (hk : k < len) :
    ∃ b off x, a = some ⟨b, off, none⟩ ∧ b < w.heap.size ∧ w.cell? ⟨b, off + k, none⟩ = some (.int .i64 x) := by
  obtain ⟨b, off, x, h1, h2, h3, _⟩ := Row1.isRow_at h hk
  exact ⟨b, off, x, h1, h2, h3⟩
theorem At2E.cells {w wr : World} {W A D k Ab Db : Nat} {xs ys : List Int} (h : At2E w wr W A D k Ab Db xs ys) : wr.cell? ⟨W, 0, none⟩ = some (.pointer (some ⟨A, 0, none⟩)) ∧ W < wr.heap.size := by
  obtain ⟨s, Ls, hs, vq, vh, vn, vf, p, h⟩ := h
  exact ⟨h.wl.cells.1, h.wl.cells.2.2.2.2.2⟩

theorem begin2 {w w1 w3 : World} {W A D Db : Nat} {vq vh : Value} {s : Ar} {p : Rp} (hw : Wl (fun b => w.heap.size ≤ b) w1 W A D s [] [] vq vh) (ho1 : Only Nil w w1)
    (hr : RfIs w3 Db (r2 []) p) (hp : ∀ k, p.D Db k → w1.heap.size + 1 ≤ k) (ho3 : Only Nil (w1.alloc (.cells #[.int .i64 3, .slice none 0 0, .slice none 0 0] ArI.tA)) w3) :
    At2E w w3 W A D 0 w1.heap.size Db [] [] := by
  have o2 : Only Nil w1 (w1.alloc (.cells #[.int .i64 3, .slice none 0 0, .slice none 0 0] ArI.tA)) := (Only.refl _ _).alloc _
  have o3 := o2.trans ho3 (fun _ _ h => h)
  have s1 := ho1.size
  have s3 := o3.size
  have ha : ArI.ArRep w3 w1.heap.size (s2 []) (.slice none 0 0) (.slice none 0 0) := (ArI.new_rep 3 w1).only ho3 (fun _ _ h => h)
  have hA : ∀ k, ArI.ArD w1.heap.size (s2 []) (.slice none 0 0) (.slice none 0 0) k → k = w1.heap.size := by
    rintro k (h | h | h | ⟨q, h, _⟩)
    · exact h
    · simp [Value.ownBlock] at h
    · simp [Value.ownBlock] at h
    · simp [s2] at h
  have hge : ∀ k, Dom w1.heap.size Db [] (.slice none 0 0) (.slice none 0 0) p k → w1.heap.size ≤ k := fun k hk => hk.elim (fun h => by have := hA k h; omega) (fun h => by have := hp k h; omega)
  refine ⟨s, [], [], vq, vh, .slice none 0 0, .slice none 0 0, p, wl_move hw o3 (fun _ _ h => h) (fun b hb h => ⟨h, fun hd => by have := hge b hd; omega⟩) (fun k hk => ⟨by omega, fun hd => ?_⟩), by simp, by simp, ha, hr, by simp, by simp, fun k hk => ⟨by have := hA k hk; omega, fun hd => by have := hA k hk; have := hp k hd; omega⟩, fun k hk => by have := hp k hk; omega, (ho1.trans o3 (fun _ _ h => h)).mono (fun _ _ h => h.elim)⟩
  rcases hd with h | h
  · have := ha.lt h; omega
  · have := RfRep.lt hr h; omega

set_option maxHeartbeats 1600000 in
set_option maxRecDepth 100000 in
theorem two_bad (a0 : Int) (a1 : Option Addr) (n1 c1 : Nat) (a2 : Option Addr) (n2 c2 : Nat) (w : World) (h2 : -9223372036854775808 ≤ a0) (h3 : a0 ≤ 9223372036854775807) (h : a0 < 1 ∨ 65536 < a0) :
    Calls Try.prog 7 #[.int .i64 a0, .slice a1 n1 c1, .slice a2 n2 c2] w fun e w' => e = .returned (.bool true) ∧ Below w.heap.size w w' := by
  have HN := Lib.hid (Al.begun_bad a0 w h h2 h3)
  have HI := Lib.hid (fun W => ArI.new_ok 3 W (by omega) (by omega))
  have HR := Lib.hid (fun W => Rfw.new_ok 3 W (by omega) (by omega))
  clear h
  go_enter Try.func7, Try.ntmps7
  go_wp2_with fail
  refine HN.out.mono ?_
  rintro e w1 ⟨rfl, rfl⟩
  go_wp2_with fail
  refine (HI.out _).mono ?_
  rintro e w2 ⟨rfl, rfl⟩
  go_wp2_with fail
  refine (HR.out _).mono ?_
  rintro e w3 ⟨Db, rfl, p, _, _, ho3⟩
  have o3 : Only Nil w w3 := (((Only.refl Nil w).alloc _).alloc _).trans ho3 (fun _ _ h => h)
  have c0 := (ho3.blk (blk_alloc (blk_new w (.cells #[.pointer none, .slice none 0 0, .pointer none, .slice none 0 0] Al.tW)) (.cells #[.int .i64 3, .slice none 0 0, .slice none 0 0] ArI.tA)) (fun h => h))
  have c1' := blk_cell c0 0
  have cl := blk_lt c0
  clear c0 ho3
  go_wp2
  go_ret
  exact ⟨rfl, o3.toBelow⟩

set_option maxHeartbeats 6400000 in
set_option maxRecDepth 100000 in
theorem two_ok (room : Nat) (a1 : Option Addr) (n cap1 : Nat) (a2 : Option Addr) (m cap2 : Nat) (z2 : List Int) (w : World) (h1 : 1 ≤ room) (h2 : room ≤ 65536) (hn : n ≤ 1048576) (hz : IsOps w a1 n) (hr : IsRow .i64 w a2 m cap2 z2) :
    Calls Try.prog 7 #[.int .i64 room, .slice a1 n cap1, .slice a2 m cap2] w fun e w' => e = .returned (.bool true) ∧ Below w.heap.size w w' := by
  have HN := Lib.hid (Al.begun_ok room w h1 h2)
  have HI := Lib.hid (fun W => ArI.new_ok 3 W (by omega) (by omega))
  have HR := Lib.hid (fun W => Rfw.new_ok 3 W (by omega) (by omega))
  have HZ := Lib.hid hz
  have HM := Lib.hid (fun k => isRow_at' hr k)
  have hm63 := Row1.isRow_len hr
  clear hz hr
  go_enter Try.func7, Try.ntmps7
  go_wp2_with fail
  refine HN.out.mono ?_
  rintro e w1 ⟨W, rfl, A, D, vq, vh, hwl, hon⟩
  have HW := Lib.hid hwl
  have HO1 := Lib.hid hon
  clear hwl hon
  go_wp2_with fail
  refine (HI.out _).mono ?_
  rintro e w2 ⟨rfl, rfl⟩
  go_wp2_with fail
  refine (HR.out _).mono ?_
  rintro e w3 ⟨Db, rfl, p, hrf, hp, ho3⟩
  have hat : At2E w w3 W A D 0 w1.heap.size Db [] [] := begin2 HW.out HO1.out hrf (fun k hk => by have := hp k hk; simpa using this) ho3
  have HAT := Lib.hid hat
  obtain ⟨c0, clt⟩ := hat.cells
  clear hrf hp ho3 hat HN HI HR
  go_wp2
  go_loopg [13] n (fun g v13 wr => ∃ (k : Nat) (xs : List Int), k ≤ n ∧ g = n - k ∧ v13 = .int .i64 k ∧ Hid (At2E w wr W A D k w1.heap.size Db xs xs))
  case atStart => exact ⟨0, [], by omega, by omega, rfl, HAT⟩
  case round =>
    obtain ⟨k, xs, hk, hg, rfl, HO⟩ := hrel
    clear HAT c0 clt
    by_cases hlt : k < n
    · obtain ⟨b, off, o, rfl, hb, hok, hcell⟩ := HZ.out.2 k hlt
      obtain ⟨i, l, hi, hl, hpick⟩ := HO.out.pick (by omega) o hok
      have HP := Lib.hid hpick
      have HC := Lib.hid (HO.out.ops hb hcell)
      have Hok := Lib.hid hok
      have hi' := Lib.hid hi
      unfold Al.ocs hv at HP
      have hklt : (k : Int) < (n : Int) := by omega
      have c0 : wr.cell? ⟨b, off + k * 7, none⟩ = some (.int .i64 o.kind) := HC.out.2 0 _ rfl
      have c1 := HC.out.2 1 _ rfl
      have c2 := HC.out.2 2 _ rfl
      have c3 := HC.out.2 3 _ rfl
      have c4 := HC.out.2 4 _ rfl
      have c5 := HC.out.2 5 _ rfl
      have c6 := HC.out.2 6 _ rfl
      have hbw := HC.out.1
      have kinds : (decide (o.kind ≤ 3) = true) ∨ (decide (o.kind ≤ 3) = false ∧ (o.kind == 10) = true) ∨ (decide (o.kind ≤ 3) = false ∧ (o.kind == 10) = false) := by
        by_cases q1 : o.kind ≤ 3
        · exact .inl (decide_eq_true q1)
        · by_cases q2 : o.kind = 10
          · exact .inr (.inl ⟨decide_eq_false q1, beq_iff_eq.2 q2⟩)
          · exact .inr (.inr ⟨decide_eq_false q1, beq_eq_false_iff_ne.2 q2⟩)
      clear hi hl hpick hcell hok hb
      go_wp2_with fail
      refine HP.out.mono ?_
      rintro e w2 ⟨rfl, ho2⟩
      have on := ho2.alloc (.cells #[.int .u32 i, .int .u32 l] ArT.tH)
      have hb2 := blk_new w2 (.cells #[.int .u32 i, .int .u32 l] ArT.tH)
      have HA := Lib.hid (HO.out.nil ho2)
      have y0 := ho2.cell (p := ⟨b, off + k * 7, none⟩) hbw (fun h => h)
      have ya := on.cell (p := ⟨b, off + k * 7, none⟩) hbw (fun h => h)
      have d0 := ya.trans c0
      have d1 := (on.cell (p := ⟨b, off + k * 7 + 1, none⟩) hbw (fun h => h)).trans c1
      have d2 := (on.cell (p := ⟨b, off + k * 7 + 2, none⟩) hbw (fun h => h)).trans c2
      have d3 := (on.cell (p := ⟨b, off + k * 7 + 3, none⟩) hbw (fun h => h)).trans c3
      have d4 := (on.cell (p := ⟨b, off + k * 7 + 4, none⟩) hbw (fun h => h)).trans c4
      have d5 := (on.cell (p := ⟨b, off + k * 7 + 5, none⟩) hbw (fun h => h)).trans c5
      have d6 := (on.cell (p := ⟨b, off + k * 7 + 6, none⟩) hbw (fun h => h)).trans c6
      have e0 := y0.trans c0
      have hb2l := blk_lt hb2
      have g0 : (w2.alloc (.cells #[.int .u32 i, .int .u32 l] ArT.tH)).cell? ⟨w2.heap.size, 0, none⟩ = some (.int .u32 i) := blk_cell hb2 0
      have g1 : (w2.alloc (.cells #[.int .u32 i, .int .u32 l] ArT.tH)).cell? ⟨w2.heap.size, 1, none⟩ = some (.int .u32 l) := blk_cell hb2 1
      have hbw2 : b < w2.heap.size := Nat.lt_of_lt_of_le hbw ho2.size
      have Hb2 := Lib.hid hb2
      have OZ : Hid (Only Nil w2 (w2.alloc (.cells #[.int .u32 i, .int .u32 l] ArT.tH))) := Lib.hid ((Only.refl _ _).alloc _)
      clear c0 c1 c2 c3 c4 c5 c6 HC y0 ya hb2 HP ho2 on HO
      rcases kinds with q1 | ⟨q1, q2⟩ | ⟨q1, q2⟩
      · as_aux_lemma =>
        go_upto_region 13 with fail
        generalize hZ : w2.alloc (.cells #[.int .u32 i, .int .u32 l] ArT.tH) = Z at *
        clear hZ e0
        go_still_tail 6, (by kernel_rfl)
        have HC := Lib.hid (HA.out.step (w1 := Z.drew) (b := w2.heap.size) OZ.out.drew (Nat.le_refl _) Hb2.out (f := 30) (args := #[.pointer (some ⟨W, 0, none⟩), .agg (Al.ocs o), hv i l]) (fun P s Ls hs vq vh hw e1 e2 => Al.nodes_all hw o Hok.out i l hi'.out (by omega) (by omega)))
        unfold Al.ocs hv at HC
        change wpList _ _ _ _ _ Z.drew
        generalize Z.drew = Z2 at *
        go_wp2_with fail
        refine HC.out.mono ?_
        rintro e w3 ⟨rfl, ha3, hbx⟩
        have HA3 := Lib.hid ha3
        have B0 := blk_cell hbx 0
        have B1 := blk_cell hbx 1
        have Bl := blk_lt hbx
        have Bx := Lib.hid hbx
        simp only [List.getElem?_toArray, List.getElem?_cons_zero, List.getElem?_cons_succ] at B0 B1
        clear ha3 hbx HA HC Hb2 OZ d0 d1 d2 d3 d4 d5 d6 g0 g1 hb2l
        by_cases hm : k < m
        · obtain ⟨b2, off2, x, rfl, hb2, hc2⟩ := HM.out k hm
          have hmlt : (k : Int) < (m : Int) := by omega
          obtain ⟨x1, x2⟩ := HA3.out.cell hb2 hc2
          have TP := Lib.hid (HA3.out.takeP x)
          unfold hv at TP
          go_wp2_with fail
          refine TP.out.mono ?_
          rintro e w4 ⟨rfl, ha4, kp4⟩
          have HA4 := Lib.hid (ha4.nil ((Only.refl Nil w4).alloc (.cells #[.int .u32 (tkI xs), .int .u32 (tkL xs)] ArT.tH)))
          have b14 := Lib.hid (blk_alloc (kp4 _ _ Bx.out) (.cells #[.int .u32 (tkI xs), .int .u32 (tkL xs)] ArT.tH))
          have b15 := Lib.hid (blk_new w4 (.cells #[.int .u32 (tkI xs), .int .u32 (tkL xs)] ArT.tH))
          obtain ⟨x3, x4⟩ := HA4.out.cell hb2 hc2
          have TR := Lib.hid (HA4.out.takeR x)
          unfold hv at TR
          clear ha4 kp4 TP x1 x2 B0 B1 Bx HA3
          go_wp2_with fail
          refine TR.out.mono ?_
          rintro e w5 ⟨rfl, ha5, kp5⟩
          have HA5 := Lib.hid (ha5.nil ((Only.refl Nil w5).alloc (.cells #[.int .u32 (tkI xs), .int .u32 (tkL xs)] ArT.tH)))
          have d14 := blk_alloc (kp5 _ _ b14.out) (.cells #[.int .u32 (tkI xs), .int .u32 (tkL xs)] ArT.tH)
          have D14 := Lib.hid d14
          have D15 := Lib.hid (blk_alloc (kp5 _ _ b15.out) (.cells #[.int .u32 (tkI xs), .int .u32 (tkL xs)] ArT.tH))
          have D17 := Lib.hid (blk_new w5 (.cells #[.int .u32 (tkI xs), .int .u32 (tkL xs)] ArT.tH))
          have f0 := blk_cell d14 0
          have f1 := blk_cell d14 1
          have fl := blk_lt d14
          simp only [List.getElem?_toArray, List.getElem?_cons_zero, List.getElem?_cons_succ] at f0 f1
          have GP := Lib.hid (HA5.out.getP i l hi'.out)
          unfold hv at GP
          clear ha5 kp5 TR x3 x4 d14 b14 b15 HA4
          go_wp2_with fail
          refine GP.out.mono ?_
          rintro e w6 ⟨rfl, ho6⟩
          have HA6 := Lib.hid (HA5.out.nil ho6)
          have d14 := ho6.blk D14.out (fun h => h)
          have E15 := Lib.hid (ho6.blk D15.out (fun h => h))
          have E17 := Lib.hid (ho6.blk D17.out (fun h => h))
          clear f0 f1 fl
          have f0 := blk_cell d14 0
          have f1 := blk_cell d14 1
          have fl := blk_lt d14
          simp only [List.getElem?_toArray, List.getElem?_cons_zero, List.getElem?_cons_succ] at f0 f1
          have GR := Lib.hid (HA6.out.getR i l hi'.out)
          unfold hv at GR
          clear d14 D14 D15 D17 GP ho6 HA5
          go_wp2_with fail
          refine GR.out.mono ?_
          rintro e w7 ⟨rfl, ho7⟩
          have HA7 := Lib.hid (HA6.out.nil ho7)
          have d15 := ho7.blk E15.out (fun h => h)
          have d17 := ho7.blk E17.out (fun h => h)
          clear f0 f1 fl
          have f0 := blk_cell d15 0
          have f1 := blk_cell d15 1
          have fl := blk_lt d15
          have h0 := blk_cell d17 0
          have h1 := blk_cell d17 1
          have hl := blk_lt d17
          simp only [List.getElem?_toArray, List.getElem?_cons_zero, List.getElem?_cons_succ] at f0 f1 h0 h1
          clear d15 d17 E15 E17 GR ho7 HA6
          go_wp2
          go_roundg (n - (k + 1))
          case measure => omega
          case rel => exact ⟨k + 1, tkX xs x, by omega, rfl, by go_num, HA7⟩
        · have hmlt : ¬ ((k : Int) < (m : Int)) := by omega
          clear B0 B1
          go_wp2
          go_roundg (n - (k + 1))
          case measure => omega
          case rel => exact ⟨k + 1, xs, by omega, rfl, by go_num, HA3⟩
      · as_aux_lemma =>
        go_upto_region 13 with fail
        generalize hZ : w2.alloc (.cells #[.int .u32 i, .int .u32 l] ArT.tH) = Z at *
        clear hZ e0
        go_still_tail 6, (by kernel_rfl)
        have HC := Lib.hid (HA.out.step (w1 := Z.drew) (b := w2.heap.size) OZ.out.drew (Nat.le_refl _) Hb2.out (f := 30) (args := #[.pointer (some ⟨W, 0, none⟩), .agg (Al.ocs o), hv i l]) (fun P s Ls hs vq vh hw e1 e2 => Al.nodes_all hw o Hok.out i l hi'.out (by omega) (by omega)))
        unfold Al.ocs hv at HC
        change wpList _ _ _ _ _ Z.drew
        generalize Z.drew = Z2 at *
        go_wp2_with fail
        refine HC.out.mono ?_
        rintro e w3 ⟨rfl, ha3, hbx⟩
        have HA3 := Lib.hid ha3
        have B0 := blk_cell hbx 0
        have B1 := blk_cell hbx 1
        have Bl := blk_lt hbx
        have Bx := Lib.hid hbx
        simp only [List.getElem?_toArray, List.getElem?_cons_zero, List.getElem?_cons_succ] at B0 B1
        clear ha3 hbx HA HC Hb2 OZ d0 d1 d2 d3 d4 d5 d6 g0 g1 hb2l
        by_cases hm : k < m
        · obtain ⟨b2, off2, x, rfl, hb2, hc2⟩ := HM.out k hm
          have hmlt : (k : Int) < (m : Int) := by omega
          obtain ⟨x1, x2⟩ := HA3.out.cell hb2 hc2
          have TP := Lib.hid (HA3.out.takeP x)
          unfold hv at TP
          go_wp2_with fail
          refine TP.out.mono ?_
          rintro e w4 ⟨rfl, ha4, kp4⟩
          have HA4 := Lib.hid (ha4.nil ((Only.refl Nil w4).alloc (.cells #[.int .u32 (tkI xs), .int .u32 (tkL xs)] ArT.tH)))
          have b14 := Lib.hid (blk_alloc (kp4 _ _ Bx.out) (.cells #[.int .u32 (tkI xs), .int .u32 (tkL xs)] ArT.tH))
          have b15 := Lib.hid (blk_new w4 (.cells #[.int .u32 (tkI xs), .int .u32 (tkL xs)] ArT.tH))
          obtain ⟨x3, x4⟩ := HA4.out.cell hb2 hc2
          have TR := Lib.hid (HA4.out.takeR x)
          unfold hv at TR
          clear ha4 kp4 TP x1 x2 B0 B1 Bx HA3
          go_wp2_with fail
          refine TR.out.mono ?_
          rintro e w5 ⟨rfl, ha5, kp5⟩
          have HA5 := Lib.hid (ha5.nil ((Only.refl Nil w5).alloc (.cells #[.int .u32 (tkI xs), .int .u32 (tkL xs)] ArT.tH)))
          have d14 := blk_alloc (kp5 _ _ b14.out) (.cells #[.int .u32 (tkI xs), .int .u32 (tkL xs)] ArT.tH)
          have D14 := Lib.hid d14
          have D15 := Lib.hid (blk_alloc (kp5 _ _ b15.out) (.cells #[.int .u32 (tkI xs), .int .u32 (tkL xs)] ArT.tH))
          have D17 := Lib.hid (blk_new w5 (.cells #[.int .u32 (tkI xs), .int .u32 (tkL xs)] ArT.tH))
          have f0 := blk_cell d14 0
          have f1 := blk_cell d14 1
          have fl := blk_lt d14
          simp only [List.getElem?_toArray, List.getElem?_cons_zero, List.getElem?_cons_succ] at f0 f1
          have GP := Lib.hid (HA5.out.getP i l hi'.out)
          unfold hv at GP
          clear ha5 kp5 TR x3 x4 d14 b14 b15 HA4
          go_wp2_with fail
          refine GP.out.mono ?_
          rintro e w6 ⟨rfl, ho6⟩
          have HA6 := Lib.hid (HA5.out.nil ho6)
          have d14 := ho6.blk D14.out (fun h => h)
          have E15 := Lib.hid (ho6.blk D15.out (fun h => h))
          have E17 := Lib.hid (ho6.blk D17.out (fun h => h))
          clear f0 f1 fl
          have f0 := blk_cell d14 0
          have f1 := blk_cell d14 1
          have fl := blk_lt d14
          simp only [List.getElem?_toArray, List.getElem?_cons_zero, List.getElem?_cons_succ] at f0 f1
          have GR := Lib.hid (HA6.out.getR i l hi'.out)
          unfold hv at GR
          clear d14 D14 D15 D17 GP ho6 HA5
          go_wp2_with fail
          refine GR.out.mono ?_
          rintro e w7 ⟨rfl, ho7⟩
          have HA7 := Lib.hid (HA6.out.nil ho7)
          have d15 := ho7.blk E15.out (fun h => h)
          have d17 := ho7.blk E17.out (fun h => h)
          clear f0 f1 fl
          have f0 := blk_cell d15 0
          have f1 := blk_cell d15 1
          have fl := blk_lt d15
          have h0 := blk_cell d17 0
          have h1 := blk_cell d17 1
          have hl := blk_lt d17
          simp only [List.getElem?_toArray, List.getElem?_cons_zero, List.getElem?_cons_succ] at f0 f1 h0 h1
          clear d15 d17 E15 E17 GR ho7 HA6
          go_wp2
          go_roundg (n - (k + 1))
          case measure => omega
          case rel => exact ⟨k + 1, tkX xs x, by omega, rfl, by go_num, HA7⟩
        · have hmlt : ¬ ((k : Int) < (m : Int)) := by omega
          clear B0 B1
          go_wp2
          go_roundg (n - (k + 1))
          case measure => omega
          case rel => exact ⟨k + 1, xs, by omega, rfl, by go_num, HA3⟩
      · as_aux_lemma =>
        go_upto_region 14 with fail
        generalize hZ : w2.alloc (.cells #[.int .u32 i, .int .u32 l] ArT.tH) = Z at *
        clear hZ e0
        go_still_tail 6, (by kernel_rfl)
        have HC := Lib.hid (HA.out.step (w1 := Z.drew) (b := w2.heap.size) OZ.out.drew (Nat.le_refl _) Hb2.out (f := 31) (args := #[.pointer (some ⟨W, 0, none⟩), .agg (Al.ocs o), hv i l]) (fun P s Ls hs vq vh hw e1 e2 => Al.queues_all hw o i l hi'.out (by omega)))
        unfold Al.ocs hv at HC
        change wpList _ _ _ _ _ Z.drew
        generalize Z.drew = Z2 at *
        go_wp2_with fail
        refine HC.out.mono ?_
        rintro e w3 ⟨rfl, ha3, hbx⟩
        have HA3 := Lib.hid ha3
        have B0 := blk_cell hbx 0
        have B1 := blk_cell hbx 1
        have Bl := blk_lt hbx
        have Bx := Lib.hid hbx
        simp only [List.getElem?_toArray, List.getElem?_cons_zero, List.getElem?_cons_succ] at B0 B1
        clear ha3 hbx HA HC Hb2 OZ d0 d1 d2 d3 d4 d5 d6 g0 g1 hb2l
        by_cases hm : k < m
        · obtain ⟨b2, off2, x, rfl, hb2, hc2⟩ := HM.out k hm
          have hmlt : (k : Int) < (m : Int) := by omega
          obtain ⟨x1, x2⟩ := HA3.out.cell hb2 hc2
          have TP := Lib.hid (HA3.out.takeP x)
          unfold hv at TP
          go_wp2_with fail
          refine TP.out.mono ?_
          rintro e w4 ⟨rfl, ha4, kp4⟩
          have HA4 := Lib.hid (ha4.nil ((Only.refl Nil w4).alloc (.cells #[.int .u32 (tkI xs), .int .u32 (tkL xs)] ArT.tH)))
          have b14 := Lib.hid (blk_alloc (kp4 _ _ Bx.out) (.cells #[.int .u32 (tkI xs), .int .u32 (tkL xs)] ArT.tH))
          have b15 := Lib.hid (blk_new w4 (.cells #[.int .u32 (tkI xs), .int .u32 (tkL xs)] ArT.tH))
          obtain ⟨x3, x4⟩ := HA4.out.cell hb2 hc2
          have TR := Lib.hid (HA4.out.takeR x)
          unfold hv at TR
          clear ha4 kp4 TP x1 x2 B0 B1 Bx HA3
          go_wp2_with fail
          refine TR.out.mono ?_
          rintro e w5 ⟨rfl, ha5, kp5⟩
          have HA5 := Lib.hid (ha5.nil ((Only.refl Nil w5).alloc (.cells #[.int .u32 (tkI xs), .int .u32 (tkL xs)] ArT.tH)))
          have d14 := blk_alloc (kp5 _ _ b14.out) (.cells #[.int .u32 (tkI xs), .int .u32 (tkL xs)] ArT.tH)
          have D14 := Lib.hid d14
          have D15 := Lib.hid (blk_alloc (kp5 _ _ b15.out) (.cells #[.int .u32 (tkI xs), .int .u32 (tkL xs)] ArT.tH))
          have D17 := Lib.hid (blk_new w5 (.cells #[.int .u32 (tkI xs), .int .u32 (tkL xs)] ArT.tH))
          have f0 := blk_cell d14 0
          have f1 := blk_cell d14 1
          have fl := blk_lt d14
          simp only [List.getElem?_toArray, List.getElem?_cons_zero, List.getElem?_cons_succ] at f0 f1
          have GP := Lib.hid (HA5.out.getP i l hi'.out)
          unfold hv at GP
          clear ha5 kp5 TR x3 x4 d14 b14 b15 HA4
          go_wp2_with fail
          refine GP.out.mono ?_
          rintro e w6 ⟨rfl, ho6⟩
          have HA6 := Lib.hid (HA5.out.nil ho6)
          have d14 := ho6.blk D14.out (fun h => h)
          have E15 := Lib.hid (ho6.blk D15.out (fun h => h))
          have E17 := Lib.hid (ho6.blk D17.out (fun h => h))
          clear f0 f1 fl
          have f0 := blk_cell d14 0
          have f1 := blk_cell d14 1
          have fl := blk_lt d14
          simp only [List.getElem?_toArray, List.getElem?_cons_zero, List.getElem?_cons_succ] at f0 f1
          have GR := Lib.hid (HA6.out.getR i l hi'.out)
          unfold hv at GR
          clear d14 D14 D15 D17 GP ho6 HA5
          go_wp2_with fail
          refine GR.out.mono ?_
          rintro e w7 ⟨rfl, ho7⟩
          have HA7 := Lib.hid (HA6.out.nil ho7)
          have d15 := ho7.blk E15.out (fun h => h)
          have d17 := ho7.blk E17.out (fun h => h)
          clear f0 f1 fl
          have f0 := blk_cell d15 0
          have f1 := blk_cell d15 1
          have fl := blk_lt d15
          have h0 := blk_cell d17 0
          have h1 := blk_cell d17 1
          have hl := blk_lt d17
          simp only [List.getElem?_toArray, List.getElem?_cons_zero, List.getElem?_cons_succ] at f0 f1 h0 h1
          clear d15 d17 E15 E17 GR ho7 HA6
          go_wp2
          go_roundg (n - (k + 1))
          case measure => omega
          case rel => exact ⟨k + 1, tkX xs x, by omega, rfl, by go_num, HA7⟩
        · have hmlt : ¬ ((k : Int) < (m : Int)) := by omega
          clear B0 B1
          go_wp2
          go_roundg (n - (k + 1))
          case measure => omega
          case rel => exact ⟨k + 1, xs, by omega, rfl, by go_num, HA3⟩
    · have he : k = n := by omega
      subst he
      have HS := Lib.hid (HO.out.seen (by omega))
      go_wp2_with fail
      refine HS.out.mono ?_
      rintro e w2 ⟨rfl, ha⟩
      have HP := Lib.hid ha.lenP
      have HB := Lib.hid ha
      clear ha
      go_wp2_with fail
      refine HP.out.mono ?_
      rintro e w4 ⟨rfl, ho4⟩
      have HR := Lib.hid (HB.out.nil ho4).lenR
      have HB4 := Lib.hid (HB.out.nil ho4)
      clear ho4
      go_wp2_with fail
      refine HR.out.mono ?_
      rintro e w5 ⟨rfl, ho5⟩
      have HB5 := Lib.hid (HB4.out.nil ho5)
      clear ho5
      go_wp2
      go_ret
      exact ⟨rfl, HB5.out.below⟩
end Tw
end Go.Proofs.Ytnhedhmffgaohaa
