/- Handles as plain pairs; rows of handles; the walk of 'without': the handles but one, in a row of its own. -/
import Derived.Test.YtnhedhmffgaohaaProg
import Derived.Test.YtnhedhmffgaohaaArM
import Derived.Deep.RegionHeld3
namespace Go.Proofs.Ytnhedhmffgaohaa
open Go.RowKit

/-- A handle: its place and its life. -/
structure Hd where
  ix : Nat
  life : Nat
deriving DecidableEq
def Hd.cells (h : Hd) : List Value := [.int .u32 (h.ix : Int), .int .u32 (h.life : Int)]
def Hd.val (h : Hd) : Value := .agg #[.int .u32 (h.ix : Int), .int .u32 (h.life : Int)]
theorem Hd.len (h : Hd) : h.cells.length = 2 := rfl
def HRow (w : World) (v : Value) (l : List Hd) : Prop := w.ownsRow 0 32 2 v l.length (l.flatMap Hd.cells)

theorem HRow.own {w : World} {v : Value} {l : List Hd} (h : HRow w v l) : w.ownsRow 0 32 2 v l.length (l.flatMap Hd.cells) := h
theorem HRow.cell {w : World} {g c : Nat} {l : List Hd} (h : HRow w (.slice (some ⟨g, 0, none⟩) l.length c) l) {i : Nat} {x : Hd} (hx : l[i]? = some x) :
    w.cell? ⟨g, i * 2, none⟩ = some (.int .u32 (x.ix : Int)) ∧ w.cell? ⟨g, i * 2 + 1, none⟩ = some (.int .u32 (x.life : Int)) :=
  ⟨own_cell h.own (by have := lay_get (enc := Hd.cells) (m := 2) (fun a _ => a.len) hx (k := 0) (by omega); simpa [Hd.cells] using this),
   own_cell h.own (by have := lay_get (enc := Hd.cells) (m := 2) (fun a _ => a.len) hx (k := 1) (by omega); simpa [Hd.cells] using this)⟩

theorem infoH : (Try.prog.info? 32).map (fun i => (i.zero, i.size, i.bytes)) = some (some (.agg #[.int .u32 0, .int .u32 0]), 2, 8) := by kernel_rfl

/-- The handles but one. -/
def wout (l : List Hd) (h : Hd) : List Hd := l.filter (fun x => x != h)
theorem wout_snoc (l : List Hd) (x h : Hd) : wout (l ++ [x]) h = wout l h ++ (if x = h then [] else [x]) := by
  unfold wout
  rw [List.filter_append]
  by_cases e : x = h <;> simp [e]
theorem take_snoc_hd {l : List Hd} {k : Nat} {x : Hd} (hx : l[k]? = some x) : l.take (k + 1) = l.take k ++ [x] := by
  obtain ⟨h, rfl⟩ := List.getElem?_eq_some_iff.1 hx
  rw [List.take_succ_eq_append_getElem h]

theorem bytesH (n : Nat) (h : n ≤ 65536) : n + 1 ≤ maxLen ∧ (n + 1) * 8 ≤ 140737488355328 := ⟨by unfold maxLen; omega, by omega⟩

set_option maxHeartbeats 1600000 in
set_option maxRecDepth 100000 in
theorem without_any (v : Value) (l : List Hd) (hi hf : Nat) (w : World) (hl : HRow w v l) (hn : l.length ≤ 65536) :
    Calls Try.prog 12 #[v, .agg #[.int .u32 (hi : Int), .int .u32 (hf : Int)]] w fun e w' => ∃ r, e = .returned r ∧ HRow w' r (wout l ⟨hi, hf⟩) ∧ (∀ k, r.ownBlock = some k → w.heap.size ≤ k) ∧ Only Nil w w' := by
  obtain ⟨i0, hi0, hz0, hz1, hz2⟩ := info_parts infoH
  obtain ⟨A, c, rfl, hc⟩ := own_slice hl.own
  go_enter Try.func12, Try.ntmps12
  go_wp2
  have hbox0 := blk_alloc (blk_new w (.cells #[.int .u32 hi, .int .u32 hf] 32)) (.cells #[] 32)
  have hr0 : HRow ((w.alloc (.cells #[.int .u32 hi, .int .u32 hf] 32)).alloc (.cells #[] 32)) (.slice (some ⟨w.heap.size + 1, 0, none⟩) 0 0) [] := by
    have := World.ownsRow_lit (base := 0) (e := 32) (size := 2) (w.alloc (.cells #[.int .u32 hi, .int .u32 hf] 32)) #[] 0 (Nat.zero_le _) (by unfold maxLen; omega) rfl
    unfold HRow; simpa using this
  have hon0 : Only Nil w ((w.alloc (.cells #[.int .u32 hi, .int .u32 hf] 32)).alloc (.cells #[] 32)) := ((Only.refl _ w).alloc _).alloc _
  go_loopw [5, 6] (fun v i wr => ∃ k : Nat, k ≤ l.length ∧ i = .int .i64 k ∧ HRow wr v (wout (l.take k) ⟨hi, hf⟩) ∧ (∀ b, v.ownBlock = some b → w.heap.size + 1 ≤ b) ∧ Only Nil w wr ∧ wr.heap[w.heap.size]? = some (.cells #[.int .u32 hi, .int .u32 hf] 32 (0, 0)))
    (fun _ i _ => l.length - (intOf i).toNat)
  case atStart => exact ⟨0, Nat.zero_le _, rfl, hr0, by simp [Value.ownBlock], hon0, hbox0⟩
  case round =>
    obtain ⟨k, hk, rfl, hrow, hbl, hon, hbox⟩ := hrel
    have hl' : HRow wr (.slice A l.length c) l := own_only hl.own hon (fun _ _ h => h)
    by_cases hlt : k < l.length
    · obtain ⟨g, c', e, hg, _, _⟩ := own_row hl'.own (by omega)
      injection e with e1 _ e2
      subst e1
      subst e2
      obtain ⟨hx1, hx2⟩ := hl'.cell (List.getElem?_eq_getElem hlt)
      have hts := take_snoc_hd (List.getElem?_eq_getElem hlt)
      have hws := wout_snoc (l.take k) l[k] ⟨hi, hf⟩
      rw [← hts] at hws
      have hwl : (wout (l.take k) ⟨hi, hf⟩).length ≤ 65536 := by
        have h1 := List.length_filter_le (fun x => x != (⟨hi, hf⟩ : Hd)) (l.take k)
        have h2 := List.length_take_le k l
        unfold wout
        omega
      generalize l[k] = x at hx1 hx2 hws
      obtain ⟨xi, xf⟩ := x
      simp only at hx1 hx2
      have hB0 := blk_cell hbox 0
      have hB1 := blk_cell hbox 1
      have hBlt := blk_lt hbox
      simp only [List.getElem?_toArray, List.getElem?_cons_zero, List.getElem?_cons_succ] at hB0 hB1
      clear hts
      by_cases hxh : xi = hi ∧ xf = hf
      · obtain ⟨rfl, rfl⟩ := hxh
        rw [if_pos rfl, List.append_nil] at hws
        have Hws := Lib.hid hws
        clear hws
        go_wp2
        go_quiet (fail)
        go_wp2
        go_roundw
        case rel => exact ⟨k + 1, by omega, by go_num, by rw [Hws.out]; exact hrow, hbl, hon.drewN _, hbox⟩
        case measure => simp [intOf]; omega
      · rw [if_neg (by intro e; injection e with e1 e2; exact hxh ⟨e1, e2⟩)] at hws
        have Hws := Lib.hid hws
        clear hws
        by_cases hix : xi = hi
        · subst hix
          have hne : ((xf : Int) == (hf : Int)) = false := by simp at hxh; simp; omega
          clear hxh
          go_wp2
          go_quiet (fail)
          go_wp2_with (at_builtin; (refine wpList_append_lies _ rfl (.tmp 20) (.tmp 25) _ rfl 0 32 i0 _ 2 8 Try.underlying27 hi0 hz0 hz1 hz2 rfl (by omega) u5 (wout (l.take k) ⟨xi, hf⟩).length _ rfl ((own_drewN hrow.own _).alloc _) ⟨wr.heap.size, 0, none⟩ 1 1 (Hd.cells ⟨xi, xf⟩) rfl rfl (World.news_of_block (blk_new' _ _ _ (by simp))) (by simp [Hd.cells, Value.oneCell']) (by omega) (bytesH _ hwl).1 (bytesH _ hwl).2 (by omega) _ rfl ?_); intro g' cap w1 hown hgrow hat hlt1)
          have hu5 : u5.ownBlock ≠ some w.heap.size := fun e => by have := hbl _ e; omega
          have hbox1 := blk_grown (blk_alloc (blk_drewN hbox _) (.cells #[.int .u32 xi, .int .u32 xf] 32)) hgrow hu5
          have hon1 : Only Nil w w1 := ((hon.drewN _).alloc _).grown hgrow (fun b hb hlt => by have := hbl b hb; omega)
          have hs1 := hon.size
          have hrow1 : HRow w1 (.slice (some ⟨g', 0, none⟩) ((wout (l.take k) ⟨xi, hf⟩).length + 1) cap) (wout (l.take (k + 1)) ⟨xi, hf⟩) := by
            rw [Hws.out]; unfold HRow; simpa using hown
          have hb1 : ∀ b, (Value.slice (some ⟨g', 0, none⟩) ((wout (l.take k) ⟨xi, hf⟩).length + 1) cap).ownBlock = some b → w.heap.size + 1 ≤ b := fun b hb => by
            have : g' = b := by simpa [Value.ownBlock] using hb
            subst this
            rcases hat with h | h
            · exact hbl _ h
            · simp at h; have := blk_lt hbox; omega
          go_roundw
          case rel => exact ⟨k + 1, by omega, by go_num, hrow1, hb1, hon1, hbox1⟩
          case measure => simp [intOf]; omega
        · have hne : ((xi : Int) == (hi : Int)) = false := by simp; omega
          clear hxh
          go_wp2
          go_quiet (fail)
          go_wp2_with (at_builtin; (refine wpList_append_lies _ rfl (.tmp 20) (.tmp 25) _ rfl 0 32 i0 _ 2 8 Try.underlying27 hi0 hz0 hz1 hz2 rfl (by omega) u5 (wout (l.take k) ⟨hi, hf⟩).length _ rfl ((own_drewN hrow.own _).alloc _) ⟨wr.heap.size, 0, none⟩ 1 1 (Hd.cells ⟨xi, xf⟩) rfl rfl (World.news_of_block (blk_new' _ _ _ (by simp))) (by simp [Hd.cells, Value.oneCell']) (by omega) (bytesH _ hwl).1 (bytesH _ hwl).2 (by omega) _ rfl ?_); intro g' cap w1 hown hgrow hat hlt1)
          have hu5 : u5.ownBlock ≠ some w.heap.size := fun e => by have := hbl _ e; omega
          have hbox1 := blk_grown (blk_alloc (blk_drewN hbox _) (.cells #[.int .u32 xi, .int .u32 xf] 32)) hgrow hu5
          have hon1 : Only Nil w w1 := ((hon.drewN _).alloc _).grown hgrow (fun b hb hlt => by have := hbl b hb; omega)
          have hs1 := hon.size
          have hrow1 : HRow w1 (.slice (some ⟨g', 0, none⟩) ((wout (l.take k) ⟨hi, hf⟩).length + 1) cap) (wout (l.take (k + 1)) ⟨hi, hf⟩) := by
            rw [Hws.out]; unfold HRow; simpa using hown
          have hb1 : ∀ b, (Value.slice (some ⟨g', 0, none⟩) ((wout (l.take k) ⟨hi, hf⟩).length + 1) cap).ownBlock = some b → w.heap.size + 1 ≤ b := fun b hb => by
            have : g' = b := by simpa [Value.ownBlock] using hb
            subst this
            rcases hat with h | h
            · exact hbl _ h
            · simp at h; have := blk_lt hbox; omega
          go_roundw
          case rel => exact ⟨k + 1, by omega, by go_num, hrow1, hb1, hon1, hbox1⟩
          case measure => simp [intOf]; omega
    · go_wp2
      go_ret
      rw [List.take_of_length_le (by omega)] at hrow
      exact ⟨_, rfl, hrow, fun b hb => by have := hbl b hb; omega, hon⟩
end Go.Proofs.Ytnhedhmffgaohaa
