/- ArenaAll: the law's walk. -/
import Derived.Test.YtnhedhmffgaohaaAlU
import Derived.StillTailTactics
namespace Go.Proofs.Ytnhedhmffgaohaa
open Go.RowKit
namespace Al
open Go.Proofs.Ytnhedhmffgaohaa.Or (Opv IsOps)

/-- What a round begins with. -/
def At (w wr : World) (W A D k : Nat) : Prop := ∃ s Ls hs vq vh, Wl (fun b => w.heap.size ≤ b) wr W A D s Ls hs vq vh ∧ Ls.length ≤ k ∧ hs.length ≤ k ∧ Only (fun b => w.heap.size ≤ b) w wr
theorem At.done {w wr w' : World} {W A D k : Nat} {Ls : List (List Nat)} {hs : List Hd} (h : Done (fun b => w.heap.size ≤ b) wr W A D Ls hs w') (h1 : Ls.length ≤ k) (h2 : hs.length ≤ k) (ho : Only (fun b => w.heap.size ≤ b) w wr) : At w w' W A D (k + 1) := by
  obtain ⟨s', Ls', hs', vq', vh', hw, l1, l2, o⟩ := h
  exact ⟨s', Ls', hs', vq', vh', hw, by omega, by omega, ho.trans o (fun _ _ h => h)⟩
theorem At.nil {w wr w' : World} {W A D k : Nat} (h : At w wr W A D k) (ho : Only Nil wr w') : At w w' W A D k := by
  obtain ⟨s, Ls, hs, vq, vh, hw, l1, l2, o⟩ := h
  exact ⟨s, Ls, hs, vq, vh, hw.nil ho, l1, l2, o.trans ho (fun _ _ h => h.elim)⟩
theorem At.seen {w wr : World} {W A D k : Nat} (h : At w wr W A D k) (hk : k ≤ 4194304) :
    Calls Try.prog 32 #[.pointer (some ⟨W, 0, none⟩)] wr fun e w' => e = .returned (.bool true) ∧ At w w' W A D k := by
  have h' := h
  obtain ⟨s, Ls, hs, vq, vh, hw, l1, l2, o⟩ := h
  exact (seen_any hw (by omega)).mono fun e w' ⟨he, ho⟩ => ⟨he, h'.nil ho⟩
theorem At.ops {w wr : World} {W A D k : Nat} (h : At w wr W A D k) {b off : Nat} {o : Opv} (hb : b < w.heap.size) (hc : ∀ (j : Nat) (u : Value), o.cells[j]? = some u → w.cell? ⟨b, off + j, none⟩ = some u) :
    b < wr.heap.size ∧ ∀ (j : Nat) (u : Value), o.cells[j]? = some u → wr.cell? ⟨b, off + j, none⟩ = some u := by
  obtain ⟨s, Ls, hs, vq, vh, hw, l1, l2, ho⟩ := h
  exact ⟨Nat.lt_of_lt_of_le hb ho.size, fun j u hu => (ho.cell (p := ⟨b, off + j, none⟩) hb (by show ¬ (w.heap.size ≤ b); omega)).trans (hc j u hu)⟩
/-- pick, and then what the step does. -/
theorem At.pick {w wr : World} {W A D k : Nat} (h : At w wr W A D k) (hk : k < 4194304) (o : Opv) (ho : o.ok) : ∃ i l : Nat, i < 4294967296 ∧ l < 4294967296 ∧
    Calls Try.prog 29 #[.pointer (some ⟨W, 0, none⟩), .agg (ocs o)] wr fun e w' => e = .returned (hv i l) ∧ Only Nil wr w' := by
  obtain ⟨s, Ls, hs, vq, vh, hw, l1, l2, _⟩ := h
  exact pick_any hw o ho (by omega)
theorem At.nodes {w wr : World} {W A D k : Nat} (h : At w wr W A D k) (hk : k < 4194304) (o : Opv) (ho : o.ok) (i l : Nat) (hi : i < 4294967296) :
    Calls Try.prog 30 #[.pointer (some ⟨W, 0, none⟩), .agg (ocs o), hv i l] wr fun e w' => e = .returned (.bool true) ∧ At w w' W A D (k + 1) := by
  obtain ⟨s, Ls, hs, vq, vh, hw, l1, l2, on⟩ := h
  exact (nodes_all hw o ho i l hi (by omega) (by omega)).mono fun e w' ⟨he, hd⟩ => ⟨he, At.done hd l1 l2 on⟩
theorem At.queues {w wr : World} {W A D k : Nat} (h : At w wr W A D k) (hk : k < 4194304) (o : Opv) (i l : Nat) (hi : i < 4294967296) :
    Calls Try.prog 31 #[.pointer (some ⟨W, 0, none⟩), .agg (ocs o), hv i l] wr fun e w' => e = .returned (.bool true) ∧ At w w' W A D (k + 1) := by
  obtain ⟨s, Ls, hs, vq, vh, hw, l1, l2, on⟩ := h
  exact (queues_all hw o i l hi (by omega)).mono fun e w' ⟨he, hd⟩ => ⟨he, At.done hd l1 l2 on⟩
theorem At.cells {w wr : World} {W A D k : Nat} (h : At w wr W A D k) : wr.cell? ⟨W, 0, none⟩ = some (.pointer (some ⟨A, 0, none⟩)) ∧ W < wr.heap.size := by
  obtain ⟨s, Ls, hs, vq, vh, hw, l1, l2, on⟩ := h
  exact ⟨hw.cells.1, hw.cells.2.2.2.2.2⟩
theorem At.below {w wr : World} {W A D k : Nat} (h : At w wr W A D k) : Below w.heap.size w wr := by
  obtain ⟨s, Ls, hs, vq, vh, hw, l1, l2, on⟩ := h
  exact on.below (Nat.le_refl _) (fun k hk h => by omega)

set_option maxHeartbeats 1600000 in
set_option maxRecDepth 100000 in
theorem all_bad (a0 : Int) (a1 : Option Addr) (len1 cap1 : Nat) (w : World) (h2 : -9223372036854775808 ≤ a0) (h3 : a0 ≤ 9223372036854775807) (h : a0 < 1 ∨ 65536 < a0) :
    Calls Try.prog 6 #[.int .i64 a0, .slice a1 len1 cap1] w fun e w' => e = .returned (.bool true) ∧ Below w.heap.size w w' := by
  have HN := Lib.hid (begun_bad a0 w h h2 h3)
  clear h
  go_enter Try.func6, Try.ntmps6
  go_wp2_with fail
  refine HN.out.mono ?_
  rintro e w1 ⟨rfl, rfl⟩
  go_wp2
  go_ret
  exact ⟨rfl, Only.toBelow ((Only.refl _ _).alloc _)⟩

set_option maxHeartbeats 6400000 in
set_option maxRecDepth 100000 in
theorem all_ok (room : Nat) (a1 : Option Addr) (n cap1 : Nat) (w : World) (h1 : 1 ≤ room) (h2 : room ≤ 65536) (hn : n ≤ 1048576) (hz : IsOps w a1 n) :
    Calls Try.prog 6 #[.int .i64 room, .slice a1 n cap1] w fun e w' => e = .returned (.bool true) ∧ Below w.heap.size w w' := by
  have HN := Lib.hid (begun_ok room w h1 h2)
  have HZ := Lib.hid hz
  clear hz
  go_enter Try.func6, Try.ntmps6
  go_wp2_with fail
  refine HN.out.mono ?_
  rintro e w1 ⟨W, rfl, A, D, vq, vh, hwl, hon⟩
  have hat : At w w1 W A D 0 := ⟨_, _, _, _, _, hwl, by simp, by simp, hon.mono (fun _ _ h => h.elim)⟩
  obtain ⟨c0, clt⟩ := hat.cells
  have HAT := Lib.hid hat
  clear hwl hon hat HN
  go_wp2
  go_loopg [7, 8] n (fun g v7 v8 wr => ∃ k : Nat, k ≤ n ∧ g = n - k ∧ v7 = .int .i64 k ∧ Hid (At w wr W A D k))
  case atStart => exact ⟨0, by omega, by omega, rfl, HAT⟩
  case round =>
    obtain ⟨k, hk, hg, rfl, HO⟩ := hrel
    clear HAT c0 clt
    by_cases hlt : k < n
    · obtain ⟨b, off, o, rfl, hb, hok, hcell⟩ := HZ.out.2 k hlt
      obtain ⟨i, l, hi, hl, hpick⟩ := HO.out.pick (by omega) o hok
      have HP := Lib.hid hpick
      have HC := Lib.hid (HO.out.ops hb hcell)
      have Hok := Lib.hid hok
      have hi' := Lib.hid hi
      unfold ocs hv at HP
      have hklt : (k : Int) < (n : Int) := by omega
      have c0 : wr.cell? ⟨b, off + k * 7, none⟩ = some (.int .i64 o.kind) := HC.out.2 0 _ rfl
      have c1 := HC.out.2 1 _ rfl
      have c2 := HC.out.2 2 _ rfl
      have c3 := HC.out.2 3 _ rfl
      have c4 := HC.out.2 4 _ rfl
      have c5 := HC.out.2 5 _ rfl
      have c6 := HC.out.2 6 _ rfl
      have hbw := HC.out.1
      have kinds : (decide (o.kind ≤ 3) = true) ∨ (decide (o.kind ≤ 3) = false ∧ (o.kind == 10) = true) ∨ (decide (o.kind ≤ 3) = false ∧ (o.kind == 10) = false) := by
        by_cases q1 : o.kind ≤ 3
        · exact .inl (decide_eq_true q1)
        · by_cases q2 : o.kind = 10
          · exact .inr (.inl ⟨decide_eq_false q1, beq_iff_eq.2 q2⟩)
          · exact .inr (.inr ⟨decide_eq_false q1, beq_eq_false_iff_ne.2 q2⟩)
      clear hi hl hpick hcell hok hb
      go_wp2_with fail
      refine HP.out.mono ?_
      rintro e w2 ⟨rfl, ho2⟩
      have on := ho2.alloc (.cells #[.int .u32 i, .int .u32 l] ArT.tH)
      have hb2 := blk_new w2 (.cells #[.int .u32 i, .int .u32 l] ArT.tH)
      have HA := Lib.hid (HO.out.nil on)
      have y0 := ho2.cell (p := ⟨b, off + k * 7, none⟩) hbw (fun h => h)
      have ya := on.cell (p := ⟨b, off + k * 7, none⟩) hbw (fun h => h)
      have d0 := ya.trans c0
      have d1 := (on.cell (p := ⟨b, off + k * 7 + 1, none⟩) hbw (fun h => h)).trans c1
      have d2 := (on.cell (p := ⟨b, off + k * 7 + 2, none⟩) hbw (fun h => h)).trans c2
      have d3 := (on.cell (p := ⟨b, off + k * 7 + 3, none⟩) hbw (fun h => h)).trans c3
      have d4 := (on.cell (p := ⟨b, off + k * 7 + 4, none⟩) hbw (fun h => h)).trans c4
      have d5 := (on.cell (p := ⟨b, off + k * 7 + 5, none⟩) hbw (fun h => h)).trans c5
      have d6 := (on.cell (p := ⟨b, off + k * 7 + 6, none⟩) hbw (fun h => h)).trans c6
      have e0 := y0.trans c0
      have hb2l := blk_lt hb2
      have g0 : (w2.alloc (.cells #[.int .u32 i, .int .u32 l] ArT.tH)).cell? ⟨w2.heap.size, 0, none⟩ = some (.int .u32 i) := blk_cell hb2 0
      have g1 : (w2.alloc (.cells #[.int .u32 i, .int .u32 l] ArT.tH)).cell? ⟨w2.heap.size, 1, none⟩ = some (.int .u32 l) := blk_cell hb2 1
      have hbw2 : b < w2.heap.size := Nat.lt_of_lt_of_le hbw ho2.size
      clear c0 c1 c2 c3 c4 c5 c6 HC y0 ya hb2 HP ho2 on HO
      rcases kinds with q1 | ⟨q1, q2⟩ | ⟨q1, q2⟩
      · as_aux_lemma =>
        go_upto_region 11 with fail
        generalize hZ : w2.alloc (.cells #[.int .u32 i, .int .u32 l] ArT.tH) = Z at *
        clear hZ e0
        go_still_tail 6, (by kernel_rfl)
        have HC := Lib.hid ((HA.out.nil (Only.refl _ Z).drew).nodes (by omega) o Hok.out i l hi'.out)
        unfold ocs hv at HC
        change wpList _ _ _ _ _ Z.drew
        generalize Z.drew = Z2 at *
        go_wp2_with fail
        refine HC.out.mono ?_
        rintro e w3 ⟨rfl, ha3⟩
        have HS := Lib.hid (ha3.seen (by omega))
        clear ha3
        go_wp2_with fail
        refine HS.out.mono ?_
        rintro e w4 ⟨rfl, ha4⟩
        have HA4 := Lib.hid ha4
        clear ha4 HA HC HS d0 d1 d2 d3 d4 d5 d6 g0 g1
        go_wp2
        go_roundg (n - (k + 1))
        case measure => omega
        case rel => exact ⟨k + 1, by omega, rfl, by go_num, HA4⟩
      · as_aux_lemma =>
        go_upto_region 11 with fail
        generalize hZ : w2.alloc (.cells #[.int .u32 i, .int .u32 l] ArT.tH) = Z at *
        clear hZ e0
        go_still_tail 6, (by kernel_rfl)
        have HC := Lib.hid ((HA.out.nil (Only.refl _ Z).drew).nodes (by omega) o Hok.out i l hi'.out)
        unfold ocs hv at HC
        change wpList _ _ _ _ _ Z.drew
        generalize Z.drew = Z2 at *
        go_wp2_with fail
        refine HC.out.mono ?_
        rintro e w3 ⟨rfl, ha3⟩
        have HS := Lib.hid (ha3.seen (by omega))
        clear ha3
        go_wp2_with fail
        refine HS.out.mono ?_
        rintro e w4 ⟨rfl, ha4⟩
        have HA4 := Lib.hid ha4
        clear ha4 HA HC HS d0 d1 d2 d3 d4 d5 d6 g0 g1
        go_wp2
        go_roundg (n - (k + 1))
        case measure => omega
        case rel => exact ⟨k + 1, by omega, rfl, by go_num, HA4⟩
      · as_aux_lemma =>
        go_upto_region 13 with fail
        generalize hZ : w2.alloc (.cells #[.int .u32 i, .int .u32 l] ArT.tH) = Z at *
        clear hZ e0
        go_still_tail 6, (by kernel_rfl)
        have HC := Lib.hid ((HA.out.nil (Only.refl _ Z).drew).queues (by omega) o i l hi'.out)
        unfold ocs hv at HC
        change wpList _ _ _ _ _ Z.drew
        generalize Z.drew = Z2 at *
        go_wp2_with fail
        refine HC.out.mono ?_
        rintro e w3 ⟨rfl, ha3⟩
        have HS := Lib.hid (ha3.seen (by omega))
        clear ha3
        go_wp2_with fail
        refine HS.out.mono ?_
        rintro e w4 ⟨rfl, ha4⟩
        have HA4 := Lib.hid ha4
        clear ha4 HA HC HS d0 d1 d2 d3 d4 d5 d6 g0 g1
        go_wp2
        go_roundg (n - (k + 1))
        case measure => omega
        case rel => exact ⟨k + 1, by omega, rfl, by go_num, HA4⟩
    · have he : k = n := by omega
      subst he
      have HS := Lib.hid (HO.out.seen (by omega))
      go_wp2_with fail
      refine HS.out.mono ?_
      rintro e w2 ⟨rfl, ha⟩
      go_wp2
      go_ret
      exact ⟨rfl, ha.below⟩
end Al
end Go.Proofs.Ytnhedhmffgaohaa
