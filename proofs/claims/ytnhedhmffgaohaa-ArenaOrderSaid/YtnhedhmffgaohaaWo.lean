/- 'without' and 'same' over rows of handles at any offset. -/
import Derived.Test.YtnhedhmffgaohaaHd
import Derived.Test.YtnhedhmffgaohaaRw
namespace Go.Proofs.Ytnhedhmffgaohaa
open Go.RowKit

def HAt (w : World) (base : Nat) (v : Value) (l : List Hd) : Prop := RowAt w base 32 2 v l.length (l.flatMap Hd.cells)
theorem hd_cells {w : World} {g off : Nat} {l : List Hd} (h : ∀ j, j < l.length * 2 → w.cell? ⟨g, off + j, none⟩ = (l.flatMap Hd.cells)[j]?) {i : Nat} {x : Hd} (hx : l[i]? = some x) :
    w.cell? ⟨g, off + i * 2, none⟩ = some (.int .u32 (x.ix : Int)) ∧ w.cell? ⟨g, off + i * 2 + 1, none⟩ = some (.int .u32 (x.life : Int)) := by
  have hi : i < l.length := (List.getElem?_eq_some_iff.1 hx).1
  constructor
  · rw [h (i * 2) (by omega)]
    have := lay_get (enc := Hd.cells) (m := 2) (fun a _ => a.len) hx (k := 0) (by omega)
    simpa [Hd.cells] using this
  · rw [Nat.add_assoc, h (i * 2 + 1) (by omega)]
    have := lay_get (enc := Hd.cells) (m := 2) (fun a _ => a.len) hx (k := 1) (by omega)
    simpa [Hd.cells] using this
theorem HAt.of_row {w : World} {v : Value} {l : List Hd} (h : HRow w v l) {base : Nat} (hb : ∀ k, v.ownBlock = some k → base ≤ k) : HAt w base v l := by
  refine ⟨h.own.1, ?_⟩
  rcases (RowAt.of_own h.own).2 with h2 | ⟨g, off, cap, cs, rfl, _, r⟩
  · exact .inl h2
  · exact .inr ⟨g, off, cap, cs, rfl, hb g rfl, r⟩

set_option maxHeartbeats 1600000 in
set_option maxRecDepth 100000 in
theorem without_at (base : Nat) (v : Value) (l : List Hd) (hi hf : Nat) (w : World) (hl : HAt w base v l) (hn : l.length ≤ 65536) :
    Calls Try.prog 12 #[v, .agg #[.int .u32 (hi : Int), .int .u32 (hf : Int)]] w fun e w' => ∃ r, e = .returned r ∧ HRow w' r (wout l ⟨hi, hf⟩) ∧ (∀ k, r.ownBlock = some k → w.heap.size ≤ k) ∧ Only Nil w w' := by
  obtain ⟨i0, hi0, hz0, hz1, hz2⟩ := info_parts infoH
  obtain ⟨A, c, rfl, hc⟩ := RowAt.slice hl
  go_enter Try.func12, Try.ntmps12
  go_wp2
  have hbox0 := blk_alloc (blk_new w (.cells #[.int .u32 hi, .int .u32 hf] 32)) (.cells #[] 32)
  have hr0 : HRow ((w.alloc (.cells #[.int .u32 hi, .int .u32 hf] 32)).alloc (.cells #[] 32)) (.slice (some ⟨w.heap.size + 1, 0, none⟩) 0 0) [] := by
    have := World.ownsRow_lit (base := 0) (e := 32) (size := 2) (w.alloc (.cells #[.int .u32 hi, .int .u32 hf] 32)) #[] 0 (Nat.zero_le _) (by unfold maxLen; omega) rfl
    unfold HRow; simpa using this
  have hon0 : Only Nil w ((w.alloc (.cells #[.int .u32 hi, .int .u32 hf] 32)).alloc (.cells #[] 32)) := ((Only.refl _ w).alloc _).alloc _
  go_loopw [5, 6] (fun v i wr => ∃ k : Nat, k ≤ l.length ∧ i = .int .i64 k ∧ HRow wr v (wout (l.take k) ⟨hi, hf⟩) ∧ (∀ b, v.ownBlock = some b → w.heap.size + 1 ≤ b) ∧ Only Nil w wr ∧ wr.heap[w.heap.size]? = some (.cells #[.int .u32 hi, .int .u32 hf] 32 (0, 0)))
    (fun _ i _ => l.length - (intOf i).toNat)
  case atStart => exact ⟨0, Nat.zero_le _, rfl, hr0, by simp [Value.ownBlock], hon0, hbox0⟩
  case round =>
    obtain ⟨k, hk, rfl, hrow, hbl, hon, hbox⟩ := hrel
    have hl' : HAt wr base (.slice A l.length c) l := RowAt.nil hl hon
    by_cases hlt : k < l.length
    · obtain ⟨g, off, c', e, _, hg, _, hcs, _⟩ := RowAt.row hl' (by omega)
      injection e with e1 _ e2
      subst e1
      subst e2
      obtain ⟨hx1, hx2⟩ := hd_cells hcs (List.getElem?_eq_getElem hlt)
      clear hcs
      have hts := take_snoc_hd (List.getElem?_eq_getElem hlt)
      have hws := wout_snoc (l.take k) l[k] ⟨hi, hf⟩
      rw [← hts] at hws
      have hwl : (wout (l.take k) ⟨hi, hf⟩).length ≤ 65536 := by
        have h1 := List.length_filter_le (fun x => x != (⟨hi, hf⟩ : Hd)) (l.take k)
        have h2 := List.length_take_le k l
        unfold wout
        omega
      generalize l[k] = x at hx1 hx2 hws
      obtain ⟨xi, xf⟩ := x
      simp only at hx1 hx2
      have hB0 := blk_cell hbox 0
      have hB1 := blk_cell hbox 1
      have hBlt := blk_lt hbox
      simp only [List.getElem?_toArray, List.getElem?_cons_zero, List.getElem?_cons_succ] at hB0 hB1
      clear hts
      by_cases hxh : xi = hi ∧ xf = hf
      · obtain ⟨rfl, rfl⟩ := hxh
        rw [if_pos rfl, List.append_nil] at hws
        have Hws := Lib.hid hws
        clear hws
        go_wp2
        go_quiet (fail)
        go_wp2
        go_roundw
        case rel => exact ⟨k + 1, by omega, by go_num, by rw [Hws.out]; exact hrow, hbl, hon.drewN _, hbox⟩
        case measure => simp [intOf]; omega
      · rw [if_neg (by intro e; injection e with e1 e2; exact hxh ⟨e1, e2⟩)] at hws
        have Hws := Lib.hid hws
        clear hws
        by_cases hix : xi = hi
        · subst hix
          have hne : ((xf : Int) == (hf : Int)) = false := by simp at hxh; simp; omega
          clear hxh
          go_wp2
          go_quiet (fail)
          go_wp2_with (at_builtin; (refine wpList_append_lies _ rfl (.tmp 20) (.tmp 25) _ rfl 0 32 i0 _ 2 8 Try.underlying27 hi0 hz0 hz1 hz2 rfl (by omega) u5 (wout (l.take k) ⟨xi, hf⟩).length _ rfl ((own_drewN hrow.own _).alloc _) ⟨wr.heap.size, 0, none⟩ 1 1 (Hd.cells ⟨xi, xf⟩) rfl rfl (World.news_of_block (blk_new' _ _ _ (by simp))) (by simp [Hd.cells, Value.oneCell']) (by omega) (bytesH _ hwl).1 (bytesH _ hwl).2 (by omega) _ rfl ?_); intro g' cap w1 hown hgrow hat hlt1)
          have hu5 : u5.ownBlock ≠ some w.heap.size := fun e => by have := hbl _ e; omega
          have hbox1 := blk_grown (blk_alloc (blk_drewN hbox _) (.cells #[.int .u32 xi, .int .u32 xf] 32)) hgrow hu5
          have hon1 : Only Nil w w1 := ((hon.drewN _).alloc _).grown hgrow (fun b hb hlt => by have := hbl b hb; omega)
          have hs1 := hon.size
          have hrow1 : HRow w1 (.slice (some ⟨g', 0, none⟩) ((wout (l.take k) ⟨xi, hf⟩).length + 1) cap) (wout (l.take (k + 1)) ⟨xi, hf⟩) := by
            rw [Hws.out]; unfold HRow; simpa using hown
          have hb1 : ∀ b, (Value.slice (some ⟨g', 0, none⟩) ((wout (l.take k) ⟨xi, hf⟩).length + 1) cap).ownBlock = some b → w.heap.size + 1 ≤ b := fun b hb => by
            have : g' = b := by simpa [Value.ownBlock] using hb
            subst this
            rcases hat with h | h
            · exact hbl _ h
            · simp at h; have := blk_lt hbox; omega
          go_roundw
          case rel => exact ⟨k + 1, by omega, by go_num, hrow1, hb1, hon1, hbox1⟩
          case measure => simp [intOf]; omega
        · have hne : ((xi : Int) == (hi : Int)) = false := by simp; omega
          clear hxh
          go_wp2
          go_quiet (fail)
          go_wp2_with (at_builtin; (refine wpList_append_lies _ rfl (.tmp 20) (.tmp 25) _ rfl 0 32 i0 _ 2 8 Try.underlying27 hi0 hz0 hz1 hz2 rfl (by omega) u5 (wout (l.take k) ⟨hi, hf⟩).length _ rfl ((own_drewN hrow.own _).alloc _) ⟨wr.heap.size, 0, none⟩ 1 1 (Hd.cells ⟨xi, xf⟩) rfl rfl (World.news_of_block (blk_new' _ _ _ (by simp))) (by simp [Hd.cells, Value.oneCell']) (by omega) (bytesH _ hwl).1 (bytesH _ hwl).2 (by omega) _ rfl ?_); intro g' cap w1 hown hgrow hat hlt1)
          have hu5 : u5.ownBlock ≠ some w.heap.size := fun e => by have := hbl _ e; omega
          have hbox1 := blk_grown (blk_alloc (blk_drewN hbox _) (.cells #[.int .u32 xi, .int .u32 xf] 32)) hgrow hu5
          have hon1 : Only Nil w w1 := ((hon.drewN _).alloc _).grown hgrow (fun b hb hlt => by have := hbl b hb; omega)
          have hs1 := hon.size
          have hrow1 : HRow w1 (.slice (some ⟨g', 0, none⟩) ((wout (l.take k) ⟨hi, hf⟩).length + 1) cap) (wout (l.take (k + 1)) ⟨hi, hf⟩) := by
            rw [Hws.out]; unfold HRow; simpa using hown
          have hb1 : ∀ b, (Value.slice (some ⟨g', 0, none⟩) ((wout (l.take k) ⟨hi, hf⟩).length + 1) cap).ownBlock = some b → w.heap.size + 1 ≤ b := fun b hb => by
            have : g' = b := by simpa [Value.ownBlock] using hb
            subst this
            rcases hat with h | h
            · exact hbl _ h
            · simp at h; have := blk_lt hbox; omega
          go_roundw
          case rel => exact ⟨k + 1, by omega, by go_num, hrow1, hb1, hon1, hbox1⟩
          case measure => simp [intOf]; omega
    · go_wp2
      go_ret
      rw [List.take_of_length_le (by omega)] at hrow
      exact ⟨_, rfl, hrow, fun b hb => by have := hbl b hb; omega, hon⟩

set_option maxHeartbeats 1600000 in
set_option maxRecDepth 100000 in
theorem same_at (base : Nat) (v1 v2 : Value) (l : List Hd) (w : World) (h1 : HRow w v1 l) (h2 : HAt w base v2 l) (hn : l.length ≤ 65536) :
    Calls Try.prog 25 #[v1, v2] w fun e w' => e = .returned (.bool true) ∧ ∃ n, w' = w.drewN n := by
  obtain ⟨A1, c1, rfl, hc1⟩ := own_slice h1.own
  obtain ⟨A2, c2, rfl, hc2⟩ := RowAt.slice h2
  have H1 := Lib.hid h1
  have H2 := Lib.hid h2
  clear h1 h2
  go_enter Try.func25, Try.ntmps25
  go_wp2
  go_loopw [5] (fun v wr => ∃ k : Nat, k ≤ l.length ∧ v = .int .i64 k ∧ ∃ n, wr = w.drewN n) (fun i _ => l.length - (intOf i).toNat)
  case atStart => exact ⟨0, Nat.zero_le _, rfl, 0, rfl⟩
  case round =>
    obtain ⟨k, hk, rfl, n, rfl⟩ := hrel
    by_cases hlt : k < l.length
    · obtain ⟨g1, c1', e1, hg1, _, _⟩ := own_row H1.out.own (by omega)
      injection e1 with e1 _ e2
      subst e1
      subst e2
      obtain ⟨g2, off, c2', e1, _, hg2, _, hcs, _⟩ := RowAt.row H2.out (by omega)
      injection e1 with e1 _ e2
      subst e1
      subst e2
      obtain ⟨hx1, hx2⟩ := H1.out.cell (List.getElem?_eq_getElem hlt)
      obtain ⟨hy1, hy2⟩ := hd_cells hcs (List.getElem?_eq_getElem hlt)
      clear hcs
      generalize l[k] = x at hx1 hx2 hy1 hy2
      go_wp2
      go_quiet (fail)
      go_wp2
      go_roundw
      case rel => exact ⟨k + 1, by omega, by go_num, _, rfl⟩
      case measure => simp [intOf]; omega
    · go_wp2
      go_ret
      exact ⟨rfl, n, rfl⟩
end Go.Proofs.Ytnhedhmffgaohaa
