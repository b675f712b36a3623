/- The walks of the document's Len, Queue, in, Push. -/
import Derived.Test.YtnhedhmffgaohaaRfB
namespace Go.Proofs.Ytnhedhmffgaohaa
open Go.RowKit
namespace Rfw

/-! ### Len -/
set_option maxHeartbeats 800000 in
set_option maxRecDepth 100000 in
theorem len_any (D : Nat) (r : Rf) (p : Rp) (w : World) (h : RfIs w D r p) (hw : r.wf) :
    Calls Try.prog 36 #[.pointer (some ⟨D, 0, none⟩)] w fun e w' => e = .returned (.int .i64 ((r.places.filter Pl.taken).length : Int)) ∧ w' = w := by
  obtain ⟨vp, vd, vq, rows⟩ := p
  have hlen := hw.len
  obtain ⟨hD0, _, _, _, _, hDlt⟩ := h.base
  obtain ⟨A, c, hvp, hc⟩ := own_slice h.p
  simp only at hvp
  subst hvp
  have H := Lib.hid h
  clear h hw
  go_enter Try.func36, Try.ntmps36
  go_wp2
  go_loopg [3, 4] (r.places.length) (fun m v3 v4 wr => ∃ k : Nat, k ≤ r.places.length ∧ m = r.places.length - k ∧ v3 = .int .i64 (((r.places.take k).filter Pl.taken).length : Int) ∧ v4 = .int .i64 k ∧ wr = w)
  case atStart => exact ⟨0, Nat.zero_le _, rfl, rfl, rfl, rfl⟩
  case round =>
    obtain ⟨k, hk, hm, rfl, rfl, rfl⟩ := hrel
    by_cases hlt : k < r.places.length
    · obtain ⟨g, c', e, hg, _, _⟩ := H.out.prow hlt
      injection e with e1 _ e2
      subst e1
      subst e2
      have hx : r.places[k]? = some r.places[k] := List.getElem?_eq_getElem hlt
      have hn1 := (pl_of H.out.p hx).c1
      have hts : r.places.take (k + 1) = r.places.take k ++ [r.places[k]] := by rw [List.take_succ_eq_append_getElem hlt]
      have hfl : ((r.places.take k).filter Pl.taken).length ≤ 65536 := by
        have h1 := List.length_filter_le Pl.taken (r.places.take k)
        have h2 := List.length_take_le k r.places
        omega
      generalize r.places[k] = x at *
      cases ht : x.taken with
      | false =>
        rw [ht] at hn1
        have hf : ((r.places.take (k + 1)).filter Pl.taken).length = ((r.places.take k).filter Pl.taken).length := by rw [hts, List.filter_append]; simp [ht]
        have Hf := Lib.hid hf
        clear hts hx ht hf
        go_wp2
        go_roundg (r.places.length - (k + 1))
        case measure => omega
        case rel => exact ⟨k + 1, by omega, rfl, by rw [Hf.out], by go_num, rfl⟩
      | true =>
        rw [ht] at hn1
        have hf : ((r.places.take (k + 1)).filter Pl.taken).length = ((r.places.take k).filter Pl.taken).length + 1 := by rw [hts, List.filter_append]; simp [ht]
        have Hf := Lib.hid hf
        clear hts hx ht hf
        go_wp2
        go_roundg (r.places.length - (k + 1))
        case measure => omega
        case rel => exact ⟨k + 1, by omega, rfl, by rw [Hf.out]; go_num, by go_num, rfl⟩
    · have he : k = r.places.length := by omega
      subst he
      simp only [List.take_length]
      go_wp2
      go_ret
      exact ⟨rfl, rfl⟩

/-! ### Queue -/
set_option maxHeartbeats 800000 in
set_option maxRecDepth 100000 in
theorem queue_any (D : Nat) (r : Rf) (p : Rp) (w : World) (h : RfIs w D r p) (hw : r.wf) :
    Calls Try.prog 68 #[.pointer (some ⟨D, 0, none⟩)] w fun e w' => e = .returned (.int .i64 (r.queues.length : Int)) ∧ RStep w D p { r with queues := r.queues ++ [[]] } w' := by
  obtain ⟨vp, vd, vq, rows⟩ := p
  have hqn := hw.qn
  obtain ⟨_, _, _, hD3, hDf, hDlt⟩ := h.base
  obtain ⟨A, c, hvq, hc⟩ := own_slice h.q
  simp only at hvq
  subst hvq
  obtain ⟨i0, hi0, hz0, hz1, hz2⟩ := info_parts infoS
  have H := Lib.hid h
  clear h hw
  go_enter Try.func68, Try.ntmps68
  go_wp2_with (at_builtin; (refine wpList_append_lies _ rfl (.tmp 7) (.tmp 8) _ rfl 0 tS i0 _ 1 24 Try.underlying132 hi0 hz0 hz1 hz2 rfl (by omega) (.slice A r.queues.length c) r.queues.length rows rfl (H.out.q.alloc _) ⟨w.heap.size, 0, none⟩ 1 1 [.slice none 0 0] rfl rfl (World.news_of_block (blk_new' _ _ _ (by simp))) (by simp [Value.oneCell']) (by omega) (by unfold maxLen; omega) (by omega) (by omega) _ rfl ?_); intro f cap w1 hown hgrow hat hlt; have hd1 := blk_grown (blk_alloc H.out.d (.cells #[.slice none 0 0] tS)) hgrow (own_blk_ne H.out.q H.out.d (by decide)); have hE1 := blk_cell hd1 3; have hEf := blk_frozen hd1 3; have hElt := blk_lt hd1; simp only [List.getElem?_toArray, List.getElem?_cons_zero, List.getElem?_cons_succ] at hE1)
  go_ret
  refine ⟨ret_int (by omega), ?_⟩
  have ho1 := (Only.refl (fun b => (Value.slice A r.queues.length c).ownBlock = some b) _).grown hgrow (fun k hk _ => hk)
  have r6 := (H.out.nil ((Only.refl _ _).alloc (.cells #[.slice none 0 0] tS))).addRow ho1 hown
  refine ⟨⟨vp, vd, .slice (some ⟨f, 0, none⟩) (r.queues.length + 1) cap, rows ++ [.slice none 0 0]⟩, r6, fun k hk => ?_, ?_⟩
  · rcases hk with hk | hk | hk | hk | ⟨v, hv, hk⟩
    · exact .inl (.inl hk)
    · exact .inl (.inr (.inl hk))
    · exact .inl (.inr (.inr (.inl hk)))
    · have : f = k := by simpa [Value.ownBlock] using hk
      subst this
      rcases hat with e | e
      · exact .inl (.inr (.inr (.inr (.inl e))))
      · right; simp at e; omega
    · rcases List.mem_append.1 hv with h1 | h1
      · exact .inl (.inr (.inr (.inr (.inr ⟨v, h1, hk⟩))))
      · simp at h1
        subst h1
        simp [Value.ownBlock] at hk
  · exact (((Only.refl _ w).alloc _).grown hgrow (fun k hk _ => .inr (.inr (.inr (.inl hk))))).setCell (p := ⟨D, 3, none⟩) (.inl (.inl rfl)) _

/-! ### in -/
def _root_.Go.Proofs.Ytnhedhmffgaohaa.Rf.isIn (r : Rf) (q i l : Nat) : Bool := r.good i l && (match r.places[i]? with | some x => x.inn == q + 1 | none => false)
set_option maxHeartbeats 800000 in
set_option maxRecDepth 100000 in
theorem in_no (D q i l : Nat) (r : Rf) (p : Rp) (w : World) (h : RfIs w D r p) (hw : r.wf) (hi : i < 4294967296) (hg : r.good i l = false) :
    Calls Try.prog 120 #[.pointer (some ⟨D, 0, none⟩), .int .i64 q, .agg #[.int .u32 i, .int .u32 l]] w fun e w' => e = .returned (.bool false) ∧ Only Nil w w' := by
  have HG := Lib.hid (fun W (ho : Only Nil w W) => good_any D i l r p.vp p.vd p.vq p.rows W (h.nil ho) hw hi)
  have hlen := hw.len
  rw [hg] at HG
  have Sof : ∀ W, Only Nil (w.alloc (.cells #[.int .u32 i, .int .u32 l] tH)) W → W.cell? ⟨w.heap.size, 0, none⟩ = some (.int .u32 i) ∧ W.cell? ⟨w.heap.size, 1, none⟩ = some (.int .u32 l) ∧ Only Nil (w.alloc (.cells #[.int .u32 i, .int .u32 l] tH)) W := fun W ho => by
    have hbx := box_after' ho
    exact ⟨blk_cell hbx 0, blk_cell hbx 1, ho⟩
  have HSof := Lib.hid Sof
  clear Sof h hw hg
  go_enter Try.func120, Try.ntmps120
  go_wp2
  refine wp_region_any (by kernel_rfl) ?_
  change wpAny _ _ _ _ _ _ _ (World.drew _)
  refine wpAny_take (i := 0) (v := .pointer (some ⟨D, 0, none⟩)) rfl (by kernel_rfl) (by kernel_rfl) (by kernel_rfl) (fun _ _ _ h => h) (Or.inl ⟨by kernel_rfl, fun w => by go_simp⟩) ?_; simp only [Act.put]
  refine wpAny_ready (rs := [1]) (by kernel_rfl) (by simp) ?_
  refine AllReady.cons rfl (fun K hK => ?_) AllReady.nil
  go_simp
  refine hK _ _ ?_
  clear hK K
  refine wpAny_ready (rs := [2]) (by kernel_rfl) (by simp) ?_
  refine AllReady.cons rfl (fun K hK => ?_) AllReady.nil
  go_simp
  go_wp2_with (go_at_call 92; refine (HG.out _ ?_).mono ?_; exact ((Only.refl _ _).alloc _).drew; rintro e wg ⟨rfl, hog⟩)
  refine wpAny_take (i := 3) (v := .bool false) rfl (by kernel_rfl) (by kernel_rfl) (by kernel_rfl) (fun _ _ _ h => h) (Or.inl ⟨by kernel_rfl, fun w => by go_simp⟩) ?_; simp only [Act.put]
  refine wpAny_take (i := 4) (v := undef) rfl (by kernel_rfl) (by kernel_rfl) (by kernel_rfl) (fun _ _ _ h => h) (Or.inr ⟨by kernel_rfl, rfl⟩) ?_; simp only [Act.put]
  refine wpAny_take (i := 5) (v := undef) rfl (by kernel_rfl) (by kernel_rfl) (by kernel_rfl) (fun _ _ _ h => h) (Or.inr ⟨by kernel_rfl, rfl⟩) ?_; simp only [Act.put]
  refine wpAny_take (i := 6) (v := undef) rfl (by kernel_rfl) (by kernel_rfl) (by kernel_rfl) (fun _ _ _ h => h) (Or.inr ⟨by kernel_rfl, rfl⟩) ?_; simp only [Act.put]
  refine wpAny_take (i := 7) (v := undef) rfl (by kernel_rfl) (by kernel_rfl) (by kernel_rfl) (fun _ _ _ h => h) (Or.inr ⟨by kernel_rfl, rfl⟩) ?_; simp only [Act.put]
  refine wpAny_take (i := 8) (v := undef) rfl (by kernel_rfl) (by kernel_rfl) (by kernel_rfl) (fun _ _ _ h => h) (Or.inr ⟨by kernel_rfl, rfl⟩) ?_; simp only [Act.put]
  refine wpAny_take (i := 9) (v := undef) rfl (by kernel_rfl) (by kernel_rfl) (by kernel_rfl) (fun _ _ _ h => h) (Or.inr ⟨by kernel_rfl, rfl⟩) ?_; simp only [Act.put]
  refine wpAny_take (i := 10) (v := undef) rfl (by kernel_rfl) (by kernel_rfl) (by kernel_rfl) (fun _ _ _ h => h) (Or.inr ⟨by kernel_rfl, rfl⟩) ?_; simp only [Act.put]
  refine wpAny_take (i := 11) (v := undef) rfl (by kernel_rfl) (by kernel_rfl) (by kernel_rfl) (fun _ _ _ h => h) (Or.inr ⟨by kernel_rfl, rfl⟩) ?_; simp only [Act.put]
  refine wpAny_take (i := 12) (v := undef) rfl (by kernel_rfl) (by kernel_rfl) (by kernel_rfl) (fun _ _ _ h => h) (Or.inr ⟨by kernel_rfl, rfl⟩) ?_; simp only [Act.put]
  refine wpAny_take (i := 13) (v := undef) rfl (by kernel_rfl) (by kernel_rfl) (by kernel_rfl) (fun _ _ _ h => h) (Or.inr ⟨by kernel_rfl, rfl⟩) ?_; simp only [Act.put]
  refine wpAny_take (i := 14) (v := undef) rfl (by kernel_rfl) (by kernel_rfl) (by kernel_rfl) (fun _ _ _ h => h) (Or.inr ⟨by kernel_rfl, rfl⟩) ?_; simp only [Act.put]
  refine wpAny_take (i := 15) (v := undef) rfl (by kernel_rfl) (by kernel_rfl) (by kernel_rfl) (fun _ _ _ h => h) (Or.inr ⟨by kernel_rfl, rfl⟩) ?_; simp only [Act.put]
  refine wpAny_ready (rs := [16]) (by kernel_rfl) (by simp) ?_
  refine AllReady.cons rfl (fun K hK => ?_) AllReady.nil
  go_simp
  refine hK _ _ ?_
  clear hK K
  refine wpAny_ready (rs := [17]) (by kernel_rfl) (by simp) ?_
  refine AllReady.cons rfl (fun K hK => ?_) AllReady.nil
  go_simp
  refine hK _ _ ?_
  clear hK K
  refine wpAny_done (by kernel_rfl) ?_ _
  all_goals
    go_wp2
    go_ret
    exact ⟨by kernel_rfl, (((Only.refl Nil w).alloc _).drew).trans hog (fun _ _ h => h)⟩
set_option maxHeartbeats 800000 in
set_option maxRecDepth 100000 in
theorem in_any (D q i l : Nat) (r : Rf) (p : Rp) (w : World) (h : RfIs w D r p) (hw : r.wf) (hi : i < 4294967296) (hq : q ≤ 4194304) :
    Calls Try.prog 120 #[.pointer (some ⟨D, 0, none⟩), .int .i64 q, .agg #[.int .u32 i, .int .u32 l]] w fun e w' => e = .returned (.bool (r.isIn q i l)) ∧ Only Nil w w' := by
  have HG := Lib.hid (fun W (ho : Only Nil w W) => good_any D i l r p.vp p.vd p.vq p.rows W (h.nil ho) hw hi)
  have hlen := hw.len
  cases hg : r.good i l with
  | false =>
    have hin : r.isIn q i l = false := by unfold Rf.isIn; rw [hg]; rfl
    rw [hin]
    exact in_no D q i l r p w h hw hi hg
  | true =>
    cases hx : r.places[i]? with
    | none => unfold Rf.good at hg; rw [hx] at hg; cases hg
    | some x =>
      have hil := (List.getElem?_eq_some_iff.1 hx).1
      have hin : r.isIn q i l = (x.inn == q + 1) := by unfold Rf.isIn; rw [hg, hx]; rfl
      rw [hg] at HG
      rw [hin]
      have hcmp : ((x.inn : Int) == (q : Int) + 1) = (x.inn == q + 1) := by
        by_cases e : x.inn = q + 1
        · rw [e]; simp
        · rw [beq_eq_false_iff_ne.2 e, beq_eq_false_iff_ne.2 (by omega)]
      have hwr : IntKind.i64.wrap ((q : Int) + 1) = (q : Int) + 1 := IntWalk.i64_in _ (by omega)
      obtain ⟨g, c, hvp, hgl, hc, hgD, _⟩ := h.prow hil
      have Sof : ∀ W, Only Nil (w.alloc (.cells #[.int .u32 i, .int .u32 l] tH)) W → W.cell? ⟨w.heap.size, 0, none⟩ = some (.int .u32 i) ∧ W.cell? ⟨w.heap.size, 1, none⟩ = some (.int .u32 l) ∧ W.cell? ⟨D, 0, none⟩ = some (.slice (some ⟨g, 0, none⟩) r.places.length c) ∧ W.cell? ⟨g, i * 5 + 3, none⟩ = some (.int .i64 (x.inn : Int)) ∧ Only Nil (w.alloc (.cells #[.int .u32 i, .int .u32 l] tH)) W := fun W ho => by
        have hbx := box_after' ho
        have h1 := h.nil (((Only.refl Nil w).alloc _).trans ho (fun _ _ h => h))
        have hp1 := h1.p
        rw [hvp] at hp1
        exact ⟨blk_cell hbx 0, blk_cell hbx 1, by rw [← hvp]; exact h1.base.1, (pl_of hp1 hx).c3, ho⟩
      have HSof := Lib.hid Sof
      have hDlt := h.base.2.2.2.2.2
      clear Sof h hw hin hg hx hvp
      go_enter Try.func120, Try.ntmps120
      go_wp2
      first | go_region_held3 (fun w' => w'.cell? ⟨w.heap.size, 0, none⟩ = some (.int .u32 i) ∧ w'.cell? ⟨w.heap.size, 1, none⟩ = some (.int .u32 l) ∧ w'.cell? ⟨D, 0, none⟩ = some (.slice (some ⟨g, 0, none⟩) r.places.length c) ∧ w'.cell? ⟨g, i * 5 + 3, none⟩ = some (.int .i64 (x.inn : Int)) ∧ Only Nil (w.alloc (.cells #[.int .u32 i, .int .u32 l] tH)) w') (first | exact HSof.out _ (Only.refl _ _).drew | exact HSof.out _ (Only.trans (S := Nil) (T := Nil) (by assumption) hog (fun _ _ h => h))) ((first | (go_at_call 92; go_split_ands; (refine (HG.out _ (((Only.refl Nil w).alloc _).trans (by assumption) (fun _ _ h => h))).mono ?_); rintro e wg ⟨rfl, hog⟩))) | fail
      all_goals
        go_wp2
        go_ret
        exact ⟨by rw [← hcmp, ← hwr]; rfl, (((Only.refl Nil w).alloc _).drew).trans hog (fun _ _ h => h)⟩
end Rfw
end Go.Proofs.Ytnhedhmffgaohaa
