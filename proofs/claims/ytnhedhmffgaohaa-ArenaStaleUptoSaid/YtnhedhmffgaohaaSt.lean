/- The walk of ArenaStale: one place, taken and dropped again and again; its life only rises, so no elder handle is ever good again (fewer than 2^32 rounds). -/
import Derived.Test.YtnhedhmffgaohaaLvM
import Derived.Test.YtnhedhmffgaohaaArI2
import Derived.Test.YtnhedhmffgaohaaRow1
import Derived.Deep.RegionHeld3
namespace Go.Proofs.Ytnhedhmffgaohaa
open Go.RowKit
namespace St

def nd (x : Int) (l : Nat) (t : Bool) : Nd := ⟨[.int .i64 x], l, t, false, none, 0, 0⟩
/-- Between two rounds; while the place is taken; the handles that were given out. -/
def rest (room k : Nat) : Ar := if k = 0 then ⟨room, [], [], []⟩ else ⟨room, [nd 0 k false], [0], []⟩
def held (room k : Nat) (x : Int) : Ar := ⟨room, [nd x (k + 1) true], [], []⟩
def olds (k : Nat) : List Hd := (List.range k).map fun j => ⟨0, j + 1⟩
theorem olds_succ (k : Nat) : olds (k + 1) = olds k ++ [⟨0, k + 1⟩] := by simp [olds, List.range_succ]
theorem olds_len (k : Nat) : (olds k).length = k := by simp [olds]
theorem olds_at {k j : Nat} (h : j < k) : (olds k)[j]? = some ⟨0, j + 1⟩ := by simp [olds, h]

theorem wf_rest {room k : Nat} (h1 : 1 ≤ room) (h : room ≤ 65536) (hk : k < 4294967296) : (rest room k).wf 1 := by
  unfold rest
  by_cases e : k = 0
  · rw [if_pos e]; exact ⟨h, by simp, by simp, by simp, by simp, by simp, by simp⟩
  · rw [if_neg e]; exact ⟨h, by simpa using h1, by simp, by simp, by simp, by simp [nd], by simpa [nd] using hk⟩
theorem wf_held {room k : Nat} {x : Int} (h1 : 1 ≤ room) (h : room ≤ 65536) (hk : k + 1 < 4294967296) : (held room k x).wf 1 :=
  ⟨h, by simpa [held] using h1, by simp [held], by simp [held], by simp [held], by simp [held, nd], by simpa [held, nd] using hk⟩

theorem take_any (A room k : Nat) (vn vf : Value) (x : Int) (w : World) (h1 : 1 ≤ room) (h2 : room ≤ 65536) (hk : k + 1 < 4294967296) (hr : ArI.ArRep w A (rest room k) vn vf) :
    Calls Try.prog 11 #[.pointer (some ⟨A,0,none⟩), .int .i64 x] w fun e w' => e = .returned (.tuple #[.agg #[.int .u32 0, .int .u32 ((k : Int) + 1)], .int .i64 0]) ∧
      ∃ vn' vf', ArI.ArRep w' A (held room k x) vn' vf' ∧ (vn'.ownBlock = vn.ownBlock ∨ ∀ b, vn'.ownBlock = some b → w.heap.size ≤ b) ∧ vf'.ownBlock = vf.ownBlock ∧ Only (fun b => b = A ∨ vn.ownBlock = some b) w w' := by
  have hw := wf_rest h1 h2 (show k < 4294967296 by omega)
  by_cases e : k = 0
  · subst e
    exact (ArI.take3 A (rest room 0) vn vf x w hr hw rfl (by show 0 < room; omega)).mono fun e w' ⟨h, vn', a, b, c⟩ => ⟨h, vn', vf, a, b, rfl, c⟩
  · have he : rest room k = ⟨room, [nd 0 k false], [0], []⟩ := by unfold rest; rw [if_neg e]
    rw [he] at hr hw
    refine (ArI.take1 A _ vn vf x 0 (nd 0 k false) [] w hr hw rfl rfl).mono ?_
    rintro e w' ⟨h, vf', a, b, c⟩
    have e2 : (((nd 0 k false).life + 1 : Nat) : Int) % 4294967296 = (k : Int) + 1 := by show ((k + 1 : Nat) : Int) % 4294967296 = _; omega
    rw [e2] at h
    refine ⟨h, vn, vf', ?_, .inl rfl, b, c⟩
    have e1 : (nd 0 k false).take [.int .i64 x] = nd x (k + 1) true := by simp [nd, Nd.take]; omega
    simpa [held, e1] using a

theorem drop_any (A g c room k : Nat) (vf : Value) (x : Int) (w : World) (h1 : 1 ≤ room) (h2 : room ≤ 65536) (hk : k + 1 < 4294967296) (hr : ArI.ArRep w A (held room k x) (.slice (some ⟨g, 0, none⟩) 1 c) vf) :
    Calls Try.prog 13 #[.pointer (some ⟨A,0,none⟩), .agg #[.int .u32 0, .int .u32 ((k : Int) + 1)]] w fun e w' => e = .returned (.int .i64 0) ∧
      ∃ vf', ArI.ArRep w' A (rest room (k + 1)) (.slice (some ⟨g, 0, none⟩) 1 c) vf' ∧ (vf'.ownBlock = vf.ownBlock ∨ ∀ b, vf'.ownBlock = some b → w.heap.size ≤ b) ∧ Only (fun b => b = A ∨ b = g ∨ vf.ownBlock = some b) w w' := by
  have h := ArI.drop_ok A g c 0 (held room k x) vf (nd x (k + 1) true) w hr (wf_held h1 h2 hk) rfl rfl rfl
  exact h

theorem bad {room k j : Nat} {x : Int} (h : j < k) : (held room k x).good 0 (j + 1) = false := by
  simp [Ar.good, held, nd]; omega

theorem drop_old (A room k j : Nat) (vn vf : Value) (x : Int) (w : World) (h1 : 1 ≤ room) (h2 : room ≤ 65536) (hk : k + 1 < 4294967296) (hr : ArI.ArRep w A (held room k x) vn vf) (hj : j < k) :
    Calls Try.prog 13 #[.pointer (some ⟨A,0,none⟩), .agg #[.int .u32 0, .int .u32 ((j : Int) + 1)]] w fun e w' => e = .returned (.int .i64 50) ∧ Only Nil w w' :=
  ArI.drop_bad A 0 (j + 1) (held room k x) vn vf w hr (wf_held h1 h2 hk) (by omega) (bad hj)
theorem set_old (A room k j : Nat) (vn vf : Value) (x : Int) (w : World) (h1 : 1 ≤ room) (h2 : room ≤ 65536) (hk : k + 1 < 4294967296) (hr : ArI.ArRep w A (held room k x) vn vf) (hj : j < k) :
    Calls Try.prog 16 #[.pointer (some ⟨A,0,none⟩), .agg #[.int .u32 0, .int .u32 ((j : Int) + 1)], .int .i64 5] w fun e w' => e = .returned (.int .i64 50) ∧ Only Nil w w' :=
  ArI.set_bad A 0 (j + 1) 5 (held room k x) vn vf w hr (wf_held h1 h2 hk) (by omega) (bad hj)
theorem get_any (A g c room k : Nat) (vf : Value) (x : Int) (w : World) (h1 : 1 ≤ room) (h2 : room ≤ 65536) (hk : k + 1 < 4294967296) (hr : ArI.ArRep w A (held room k x) (.slice (some ⟨g, 0, none⟩) 1 c) vf) :
    Calls Try.prog 15 #[.pointer (some ⟨A,0,none⟩), .agg #[.int .u32 0, .int .u32 ((k : Int) + 1)]] w fun e w' => e = .returned (.tuple #[.int .i64 x, .int .i64 0]) ∧ Only Nil w w' :=
  ArI.get_ok A g c 0 x (held room k x) vf (nd x (k + 1) true) w hr (wf_held h1 h2 hk) rfl rfl rfl
theorem len_any (A room k : Nat) (vn vf : Value) (w : World) (h1 : 1 ≤ room) (h2 : room ≤ 65536) (hk : k + 1 < 4294967296) (hr : ArI.ArRep w A (rest room (k + 1)) vn vf) :
    Calls Try.prog 14 #[.pointer (some ⟨A,0,none⟩)] w fun e w' => e = .returned (.int .i64 0) ∧ ∃ n, w' = w.drewN n :=
  ArI.len_any A (rest room (k + 1)) vn vf w hr (wf_rest h1 h2 hk)
theorem free_any (A room k : Nat) (vn vf : Value) (w : World) (h1 : 1 ≤ room) (h2 : room ≤ 65536) (hk : k + 1 < 4294967296) (hr : ArI.ArRep w A (rest room (k + 1)) vn vf) :
    Calls Try.prog 17 #[.pointer (some ⟨A,0,none⟩)] w fun e w' => e = .returned (.int .i64 (room : Int)) ∧ ∃ n, w' = w.drewN n :=
  ArI.free_any A (rest room (k + 1)) vn vf w hr (wf_rest h1 h2 hk)

set_option maxHeartbeats 4000000 in
set_option maxRecDepth 100000 in
theorem walk_ok (room : Nat) (a1 : Option Addr) (n cap1 : Nat) (z1 : List Int) (w : World) (h1 : 1 ≤ room) (h2 : room ≤ 65536) (hn20 : n ≤ 1048576) (hz : Row1.IsRow .i64 w a1 n cap1 z1) :
    Calls Try.prog 4 #[.int .i64 room, .slice a1 n cap1] w fun e w' => e = .returned (.bool true) ∧ Below w.heap.size w w' := by
  have hn := ArI.new_ok room w h1 h2
  have HN := Lib.hid hn
  clear hn
  have h3 : ¬ ((room : Int) < 1) := by omega
  have h4 : ¬ (65536 < (room : Int)) := by omega
  obtain ⟨i0, hi0, hz0, hz1, hz2⟩ := info_parts infoH
  go_enter Try.func4, Try.ntmps4
  go_wp2_with fail
  refine HN.out.mono ?_
  rintro e w1 ⟨rfl, rfl⟩
  go_wp2
  have hrep0 : ArI.ArRep ((w.alloc (.cells #[.int .i64 room, .slice none 0 0, .slice none 0 0] ArI.tA)).alloc (.cells #[] 32)) w.heap.size (rest room 0) (.slice none 0 0) (.slice none 0 0) :=
    (ArI.new_rep room w).only (S := Nil) ((Only.refl _ _).alloc _) (fun _ _ h => h)
  have hh0 : HRow ((w.alloc (.cells #[.int .i64 room, .slice none 0 0, .slice none 0 0] ArI.tA)).alloc (.cells #[] 32)) (.slice (some ⟨w.heap.size + 1, 0, none⟩) 0 0) (olds 0) := by
    have := World.ownsRow_lit (base := 0) (e := 32) (size := 2) (w.alloc (.cells #[.int .i64 room, .slice none 0 0, .slice none 0 0] ArI.tA)) #[] 0 (Nat.zero_le _) (by unfold maxLen; omega) rfl
    unfold HRow; simpa [olds] using this
  have hon0 : Only Nil w ((w.alloc (.cells #[.int .i64 room, .slice none 0 0, .slice none 0 0] ArI.tA)).alloc (.cells #[] 32)) := ((Only.refl _ w).alloc _).alloc _
  go_loopw [7, 8] (fun v7 v8 wr => ∃ (k : Nat) (vn vf : Value), k ≤ n ∧ v8 = .int .i64 k ∧ ArI.ArRep wr w.heap.size (rest room k) vn vf ∧ HRow wr v7 (olds k) ∧ Only Nil w wr ∧
      (∀ b, v7.ownBlock = some b → w.heap.size ≤ b) ∧ (∀ b, vn.ownBlock = some b → w.heap.size ≤ b) ∧ (∀ b, vf.ownBlock = some b → w.heap.size ≤ b)) (fun _ i _ => n - (intOf i).toNat)
  case atStart => exact ⟨0, _, _, Nat.zero_le _, rfl, hrep0, hh0, hon0, fun b hb => by simp [Value.ownBlock] at hb; omega, fun b hb => by simp [Value.ownBlock] at hb, fun b hb => by simp [Value.ownBlock] at hb⟩
  case round =>
    clear hrep0 hh0 hon0
    obtain ⟨k, vn, vf, hk, rfl, hrep, hhs, hon, b7, bn, bf⟩ := hrel
    by_cases hlt : k < n
    · obtain ⟨b, off, x, ha, hb, hcell, hx1, hx2⟩ := Row1.isRow_at hz hlt
      subst ha
      have hk32 : k + 1 < 4294967296 := by omega
      have hcr : wr.cell? ⟨b, off + k, none⟩ = some (.int .i64 x) := (hon.cell (p := ⟨b, off + k, none⟩) hb (fun h => h)).trans hcell
      have HT := Lib.hid (take_any w.heap.size room k vn vf x wr h1 h2 hk32 hrep)
      go_wp2_with fail
      refine HT.out.mono ?_
      rintro e w1 ⟨rfl, vn', vf', hr1, hvn, hvf, ho1⟩
      obtain ⟨g, c, rfl, hg, hgc, hAg⟩ := hr1.row (by show 0 < 1; omega)
      have hty1 : ∀ b, (b = w.heap.size ∨ vn.ownBlock = some b) → Ty wr b ArI.tA ∨ Ty wr b ArI.tN := fun b hb => by
        rcases hb with rfl | hb
        · exact .inl (blk_ty hrep.a)
        · exact .inr (own_ty hrep.n hb)
      have hon1 : Only Nil w w1 := hon.trans ho1 (fun i hi h => by rcases h with rfl | h; omega; have := bn _ h; omega)
      have hh1 := own_apart hhs.own ho1 fun b hb => by rcases hty1 b hb with h | h; exact ⟨_, h, by decide⟩; exact ⟨_, h, by decide⟩
      have hg0 : w.heap.size ≤ g := by
        rcases hvn with h | h
        · exact bn g (by rw [← h]; rfl)
        · exact Nat.le_trans hon.size (h g rfl)
      have bf1 : ∀ b, vf'.ownBlock = some b → w.heap.size ≤ b := fun b hb => bf b (hvf ▸ hb)
      have HG := Lib.hid (fun W h => get_any w.heap.size g c room k vf' x W h1 h2 hk32 h)
      have hc1 : w1.cell? ⟨b, off + k, none⟩ = some (.int .i64 x) := (hon1.cell (p := ⟨b, off + k, none⟩) hb (fun h => h)).trans hcell
      clear hvn hvf ho1 hty1 hcr HT
      go_wp2_with fail
      refine (HG.out _ (hr1.only (S := Nil) ((Only.refl _ _).alloc _) (fun _ _ h => h))).mono ?_
      rintro e w2 ⟨rfl, ho2⟩
      have h12 : Only Nil w1 w2 := ((Only.refl _ w1).alloc _).trans ho2 (fun _ _ h => h)
      have hon2 := hon1.trans h12 (fun _ _ h => h)
      have hr2 := hr1.only h12 (fun _ _ h => h)
      have hh2 : HRow w2 u7 (olds k) := own_only hh1 h12 (fun _ _ h => h)
      have hbox := box_after' ho2
      have hw1lt : w1.heap.size < w2.heap.size := blk_lt hbox
      have hc2 : w2.cell? ⟨b, off + k, none⟩ = some (.int .i64 x) := (hon2.cell (p := ⟨b, off + k, none⟩) hb (fun h => h)).trans hcell
      clear hc1 ho2 h12 hr1 hon1 hh1
      have hrow2 : w2.ownsRow 0 32 2 u7 k ((olds k).flatMap Hd.cells) := by have := hh2.own; rwa [olds_len] at this
      obtain ⟨A7, c7, rfl, hc7⟩ := own_slice hrow2
      go_wp2_with fail
      go_loopw [13] (fun v13 wi => ∃ j : Nat, j ≤ k ∧ v13 = .int .i64 j ∧ Only Nil w2 wi) (fun i _ => k - (intOf i).toNat)
      case atStart => exact ⟨0, Nat.zero_le _, rfl, Only.refl _ _⟩
      case round =>
        obtain ⟨j, hj, rfl, hoi⟩ := hrel
        by_cases hjk : j < k
        · obtain ⟨g7, c7', e7, hg7, _, _⟩ := own_row hrow2 (by omega)
          injection e7 with e7 _ e7'
          subst e7
          subst e7'
          have hj1 : w2.cell? ⟨g7, j * 2, none⟩ = some (.int .u32 0) := own_cell hrow2 (by have := lay_get (enc := Hd.cells) (m := 2) (fun a _ => a.len) (olds_at hjk) (k := 0) (by omega); simpa [Hd.cells] using this)
          have hj2 : w2.cell? ⟨g7, j * 2 + 1, none⟩ = some (.int .u32 ((j : Int) + 1)) := own_cell hrow2 (by have := lay_get (enc := Hd.cells) (m := 2) (fun a _ => a.len) (olds_at hjk) (k := 1) (by omega); simpa [Hd.cells] using this)
          have Sof : ∀ W, Only Nil w2 W → W.cell? ⟨g7, j * 2, none⟩ = some (.int .u32 0) ∧ W.cell? ⟨g7, j * 2 + 1, none⟩ = some (.int .u32 ((j : Int) + 1)) ∧ W.cell? ⟨w1.heap.size, 0, none⟩ = some (.int .u32 0) ∧ W.cell? ⟨w1.heap.size, 1, none⟩ = some (.int .u32 ((k : Int) + 1)) ∧ Only Nil w2 W := fun W h => by
            have hB1 := blk_cell (h.blk hbox (fun h => h)) 0
            have hB2 := blk_cell (h.blk hbox (fun h => h)) 1
            exact ⟨(h.cell (p := ⟨g7, j * 2, none⟩) hg7 (fun h => h)).trans hj1, (h.cell (p := ⟨g7, j * 2 + 1, none⟩) hg7 (fun h => h)).trans hj2, hB1, hB2, h⟩
          have HSof := Lib.hid Sof
          have hne : (((j : Int) + 1) == ((k : Int) + 1)) = false := beq_eq_false_iff_ne.2 (by omega)
          have hg7' : g7 < wr.heap.size := Nat.lt_of_lt_of_le hg7 hoi.size
          have hb1' : w1.heap.size < wr.heap.size := Nat.lt_of_lt_of_le hw1lt hoi.size
          have hj0 : (0 : Int) ≤ (j : Int) := by omega
          have hjk' : (j : Int) < (k : Int) := by omega
          have HD := Lib.hid (fun W h => drop_old w.heap.size room k j (.slice (some ⟨g, 0, none⟩) 1 c) vf' x W h1 h2 hk32 h hjk)
          have HS := Lib.hid (fun W h => set_old w.heap.size room k j (.slice (some ⟨g, 0, none⟩) 1 c) vf' x W h1 h2 hk32 h hjk)
          clear hj1 hj2 Sof
          go_wp2
          go_region_held3 (fun w' => w'.cell? ⟨g7, j * 2, none⟩ = some (.int .u32 0) ∧ w'.cell? ⟨g7, j * 2 + 1, none⟩ = some (.int .u32 ((j : Int) + 1)) ∧ w'.cell? ⟨w1.heap.size, 0, none⟩ = some (.int .u32 0) ∧ w'.cell? ⟨w1.heap.size, 1, none⟩ = some (.int .u32 ((k : Int) + 1)) ∧ Only Nil w2 w')
            (first | exact HSof.out _ hoi.drew | exact HSof.out _ (Only.trans (S := Nil) (T := Nil) (by assumption) hod (fun _ _ h => h)) | exact HSof.out _ (Only.trans (S := Nil) (T := Nil) (by assumption) hos (fun _ _ h => h)))
            ((first
              | (go_at_call 13; go_split_ands; (refine (HD.out _ (hr2.only (S := Nil) (by assumption) (fun _ _ h => h))).mono ?_); rintro e wd ⟨rfl, hod⟩)
              | (go_at_call 16; go_split_ands; (refine (HS.out _ (hr2.only (S := Nil) (by assumption) (fun _ _ h => h))).mono ?_); rintro e ws ⟨rfl, hos⟩)))
          have hfin : Only Nil w2 ws := ((hoi.drew).trans hod (fun _ _ h => h)).trans hos (fun _ _ h => h)
          go_wp2
          go_roundw
          case rel => exact ⟨j + 1, by omega, by go_num, hfin⟩
          case measure => simp [intOf]; omega
        · have h2i : ArI.ArRep wr w.heap.size (held room k x) (.slice (some ⟨g, 0, none⟩) 1 c) vf' := hr2.only hoi (fun _ _ h => h)
          have hon3 := hon2.trans hoi (fun _ _ h => h)
          have hbox3 := hoi.blk hbox (fun h => h)
          have hrow3 := own_only hrow2 hoi (fun _ _ h => h)
          have hc3 : wr.cell? ⟨b, off + k, none⟩ = some (.int .i64 x) := (hon3.cell (p := ⟨b, off + k, none⟩) hb (fun h => h)).trans hcell
          have hB1 := blk_cell hbox3 0
          have hB2 := blk_cell hbox3 1
          have hb1' := blk_lt hbox3
          simp only [List.getElem?_toArray, List.getElem?_cons_zero, List.getElem?_cons_succ] at hB1 hB2
          clear hr2 hon2 hbox hrow2 hc2 hoi hh2 hw1lt
          go_wp2_with fail
          refine (HG.out _ h2i).mono ?_
          rintro e w3 ⟨rfl, ho3⟩
          have hr3 := h2i.only ho3 (fun _ _ h => h)
          have hon4 := hon3.trans ho3 (fun _ _ h => h)
          have hbox4 := ho3.blk hbox3 (fun h => h)
          have hrow4 := own_only hrow3 ho3 (fun _ _ h => h)
          have hc4 : w3.cell? ⟨b, off + k, none⟩ = some (.int .i64 x) := (hon4.cell (p := ⟨b, off + k, none⟩) hb (fun h => h)).trans hcell
          have hC1 := blk_cell hbox4 0
          have hC2 := blk_cell hbox4 1
          have hb3' := blk_lt hbox4
          simp only [List.getElem?_toArray, List.getElem?_cons_zero, List.getElem?_cons_succ] at hC1 hC2
          have HDo := Lib.hid (drop_any w.heap.size g c room k vf' x w3 h1 h2 hk32 hr3)
          clear h2i hon3 hbox3 hrow3 hc3 hB1 hB2 hb1'
          go_wp2_with fail
          refine HDo.out.mono ?_
          rintro e w4 ⟨rfl, vf2, hr4, hvf2, ho4⟩
          have hty4 : ∀ b, (b = w.heap.size ∨ b = g ∨ vf'.ownBlock = some b) → Ty w3 b ArI.tA ∨ Ty w3 b ArI.tN ∨ Ty w3 b ArI.tI := fun b hb => by
            rcases hb with rfl | rfl | hb
            · exact .inl (blk_ty hr3.a)
            · exact .inr (.inl (own_ty hr3.n rfl))
            · exact .inr (.inr (own_ty hr3.f hb))
          have hon5 : Only Nil w w4 := hon4.trans ho4 (fun i hi h => by
            rcases h with rfl | rfl | h
            · omega
            · omega
            · have := bf1 _ h; omega)
          have hbox5 := blk_apart hbox4 ho4 (fun b hb => by rcases hty4 b hb with h | h | h <;> exact ⟨_, h, by decide⟩)
          have hrow5 := own_apart hrow4 ho4 (fun b hb => by rcases hty4 b hb with h | h | h <;> exact ⟨_, h, by decide⟩)
          have hD1 := blk_cell hbox5 0
          have hD2 := blk_cell hbox5 1
          have hb5' := blk_lt hbox5
          simp only [List.getElem?_toArray, List.getElem?_cons_zero, List.getElem?_cons_succ] at hD1 hD2
          have HL := Lib.hid (len_any w.heap.size room k (.slice (some ⟨g, 0, none⟩) 1 c) vf2 w4 h1 h2 hk32 hr4)
          have HF := Lib.hid (fun m => free_any w.heap.size room k (.slice (some ⟨g, 0, none⟩) 1 c) vf2 (w4.drewN m) h1 h2 hk32 (hr4.drewN m))
          have hon4s := hon4.size
          clear hon4 hbox4 hrow4 hc4 hC1 hC2 hty4
          go_wp2_with fail
          refine HL.out.mono ?_
          rintro e w5 ⟨rfl, m1, rfl⟩
          go_wp2_with fail
          refine (HF.out _).mono ?_
          rintro e w6 ⟨rfl, m2, rfl⟩
          go_wp2_with (at_builtin; (refine wpList_append_lies _ rfl (.tmp 130) (.tmp 132) _ rfl 0 32 i0 _ 2 8 Try.underlying27 hi0 hz0 hz1 hz2 rfl (by omega) (.slice A7 k c7) k _ rfl (World.ownsRow.alloc (own_drewN hrow5 _) _) ⟨w4.heap.size, 0, none⟩ 1 1 [.int .u32 0, .int .u32 ((k : Int) + 1)] rfl rfl (World.news_of_block (blk_new' _ _ _ (by simp))) (by simp [Value.oneCell']) (by omega) (by unfold maxLen; omega) (by omega) (by omega) _ rfl ?_); intro g9 cap9 w7 hown7 hgrow7 hat7 hlt7)
          have h47 : Only (Row (.slice A7 k c7)) w4 w7 := (((Only.refl _ w4).drewN _).alloc _).grown hgrow7 fun b hb _ => hb
          have hr7 := hr4.apart h47 fun b hb => ⟨_, own_ty hrow5 hb, by decide, by decide, by decide, by decide⟩
          have hon7 : Only Nil w w7 := hon5.trans h47 fun i hi h => by have := b7 _ h; omega
          have hrow7 : HRow w7 (.slice (some ⟨g9, 0, none⟩) (k + 1) cap9) (olds (k + 1)) := by
            have e : (olds k).flatMap Hd.cells ++ [.int .u32 0, .int .u32 ((k : Int) + 1)] = (olds (k + 1)).flatMap Hd.cells := by rw [olds_succ]; simp [Hd.cells]
            unfold HRow
            rw [olds_len, ← e]
            exact hown7
          have hb7' : ∀ b, (Value.slice (some ⟨g9, 0, none⟩) (k + 1) cap9).ownBlock = some b → w.heap.size ≤ b := fun b hb => by
            have : g9 = b := by simpa [Value.ownBlock] using hb
            subst this
            rcases hat7 with h | h
            · exact b7 _ h
            · have := hon5.size; simp at h; omega
          have hbn' : ∀ b, (Value.slice (some ⟨g, 0, none⟩) 1 c).ownBlock = some b → w.heap.size ≤ b := fun b hb => by
            have : g = b := by simpa [Value.ownBlock] using hb
            omega
          have hbf' : ∀ b, vf2.ownBlock = some b → w.heap.size ≤ b := fun b hb => by
            rcases hvf2 with h | h
            · exact bf1 b (h ▸ hb)
            · have := h b hb; have := hon4s; omega
          go_roundw
          case rel => exact ⟨k + 1, _, _, by omega, by go_num, hr7, hrow7, hon7, hb7', hbn', hbf'⟩
          case measure => simp [intOf]; omega
    · go_wp2
      go_ret
      exact ⟨rfl, hon.toBelow⟩

set_option maxHeartbeats 400000 in
set_option maxRecDepth 100000 in
theorem walk_bad (a0 : Int) (a1 : Option Addr) (len1 cap1 : Nat) (w : World) (h2 : -9223372036854775808 ≤ a0) (h3 : a0 ≤ 9223372036854775807) (h : a0 < 1 ∨ 65536 < a0) :
    Calls Try.prog 4 #[.int .i64 a0, .slice a1 len1 cap1] w fun e w' => e = .returned (.bool true) ∧ Below w.heap.size w w' := by
  have hn := ArI.new_bad a0 w h h2 h3
  have HN := Lib.hid hn
  clear hn
  rcases h with h | h
  · go_enter Try.func4, Try.ntmps4
    go_wp2_with fail
    refine HN.out.mono ?_
    rintro e w1 ⟨rfl, rfl⟩
    go_wp2
    go_ret
    exact ⟨rfl, Below.refl _ _⟩
  · have h4 : ¬ a0 < 1 := by omega
    go_enter Try.func4, Try.ntmps4
    go_wp2_with fail
    refine HN.out.mono ?_
    rintro e w1 ⟨rfl, rfl⟩
    go_wp2
    go_ret
    exact ⟨rfl, Below.refl _ _⟩
end St
end Go.Proofs.Ytnhedhmffgaohaa
