/- The walks of the document's All, First, Dead. -/
import Derived.Test.YtnhedhmffgaohaaRfC
import Derived.Test.YtnhedhmffgaohaaHd
namespace Go.Proofs.Ytnhedhmffgaohaa
open Go.RowKit
namespace Rfw

/-! ### All -/
theorem infoH : (Try.prog.info? tH).map (fun i => (i.zero, i.size, i.bytes)) = some (some (.agg #[.int .u32 0, .int .u32 0]), 2, 8) := by kernel_rfl
theorem rall_len (pl : List Pl) (l : List Nat) : (rall pl l).length ≤ l.length := List.length_filterMap_le _ _
theorem rall_snoc (pl : List Pl) (l : List Nat) (k : Nat) {x : Pl} (hx : pl[k]? = some x) : rall pl (l ++ [k]) = rall pl l ++ (if x.dead = true then [] else [⟨k, x.life⟩]) := by
  unfold rall
  rw [List.filterMap_append]
  congr 1
  have e : rh pl k = if x.dead = true then none else some ⟨k, x.life⟩ := by unfold rh; rw [hx]
  cases hd : x.dead <;> simp [e, hd]
set_option maxHeartbeats 1600000 in
set_option maxRecDepth 100000 in
theorem all_any (D q : Nat) (r : Rf) (L : List Nat) (p : Rp) (w : World) (h : RfIs w D r p) (hw : r.wf) (hL : r.queues[q]? = some L) :
    Calls Try.prog 85 #[.pointer (some ⟨D, 0, none⟩), .int .i64 q] w fun e w' => ∃ v, e = .returned v ∧ HRow w' v (rall r.places L) ∧ (∀ k, v.ownBlock = some k → w.heap.size ≤ k) ∧ Only Nil w w' := by
  obtain ⟨i0, hi0, hz0, hz1, hz2⟩ := info_parts infoH
  have hlen := hw.len
  have hqn := hw.qn
  have hql := (hw.ql L (List.mem_of_getElem? hL)).1
  have hqi := (hw.ql L (List.mem_of_getElem? hL)).2
  have hqlt := (List.getElem?_eq_some_iff.1 hL).1
  obtain ⟨gq, cq, A, ca, hvq, _, hcq, _, _, hrq, hca, _, _⟩ := h.qrow hL
  have H := Lib.hid h
  have HL := Lib.hid hL
  have Hrq := Lib.hid hrq
  have Hvq := Lib.hid hvq
  have facts : ∀ W, Only Nil w W → W.cell? ⟨D, 0, none⟩ = some p.vp ∧ W.cell? ⟨D, 3, none⟩ = some (.slice (some ⟨gq, 0, none⟩) r.queues.length cq) ∧ W.cell? ⟨gq, q, none⟩ = some (.slice A L.length ca) ∧ D < W.heap.size ∧ gq < W.heap.size := fun W ho => by
    have h1 := H.out.nil ho
    have hq1 := h1.q
    rw [Hvq.out] at hq1
    exact ⟨h1.base.1, by rw [← Hvq.out]; exact h1.base.2.2.2.1, own_cell hq1 Hrq.out, h1.base.2.2.2.2.2, own_lt hq1 rfl⟩
  have Facts := Lib.hid facts
  have hqlI : (q : Int) < (r.queues.length : Int) := by omega
  clear h hw hL hrq hvq facts
  go_enter Try.func85, Try.ntmps85
  go_wp2
  have hr0 : HRow (w.alloc (.cells #[] tH)) (.slice (some ⟨w.heap.size, 0, none⟩) 0 0) [] := by
    have := World.ownsRow_lit (base := 0) (e := tH) (size := 2) w #[] 0 (Nat.zero_le _) (by unfold maxLen; omega) rfl
    unfold HRow; simpa using this
  have on0 : Only Nil w (w.alloc (.cells #[] tH)) := (Only.refl _ _).alloc _
  go_loopg [5, 6, 7] (L.length) (fun m v5 v6 v7 wr => ∃ k : Nat, k ≤ L.length ∧ m = L.length - k ∧ v6 = .int .i64 k ∧ Hid (HRow wr v5 (rall r.places (L.take k))) ∧ Hid (∀ b, v5.ownBlock = some b → w.heap.size ≤ b) ∧ Only Nil w wr)
  case atStart => exact ⟨0, Nat.zero_le _, rfl, rfl, Lib.hid hr0, Lib.hid (fun b hb => by rw [← ob_eq hb]; exact Nat.le_refl _), on0⟩
  case round =>
    obtain ⟨k, hk, hm, rfl, hrow, hb5, hon⟩ := hrel
    obtain ⟨hD0, hD3, hqc, hDlt, hgql⟩ := Facts.out wr hon
    clear hr0 on0
    by_cases hlt : k < L.length
    · have hLk : L[k]? = some L[k] := List.getElem?_eq_getElem hlt
      have hil := hqi L[k] (List.getElem_mem hlt)
      have hts : L.take (k + 1) = L.take k ++ [L[k]] := by rw [List.take_succ_eq_append_getElem hlt]
      have h1 := H.out.nil hon
      obtain ⟨v0, hv0, hqrow⟩ := h1.row q L HL.out
      rw [Hrq.out] at hv0
      injection hv0 with hv0
      subst hv0
      obtain ⟨gl, cl, e, hgl, _, _⟩ := own_row hqrow (by omega)
      injection e with e1 _ e2
      subst e1
      subst e2
      have hLc := row_get hqrow hLk
      obtain ⟨gp, cp, hvp, hgp, hcp, _, _⟩ := h1.prow hil
      rw [hvp] at hD0
      have hp1 := h1.p
      rw [hvp] at hp1
      generalize hi : L[k] = i at *
      have hx : r.places[i]? = some r.places[i] := List.getElem?_eq_getElem hil
      have hn4 := (pl_of hp1 hx).c4
      have hsn := rall_snoc r.places (L.take k) i hx
      rw [← hts] at hsn
      have hlife := H.out
      generalize r.places[i] = x at hx hn4 hsn
      have Hx := Lib.hid hx
      have hrl : (rall r.places (L.take k)).length ≤ 65536 := by
        have h1 := rall_len r.places (L.take k)
        have h2 := List.length_take_le k L
        omega
      have hilI : (i : Int) < (r.places.length : Int) := by omega
      have hkI : (k : Int) < (L.length : Int) := by omega
      cases hd : x.dead with
      | true =>
        rw [hd] at hn4
        rw [hd, if_pos rfl, List.append_nil] at hsn
        have Hsn := Lib.hid hsn
        clear hsn hx hd hts h1 hp1 hqrow hvp hlife hLk hi
        go_wp2
        go_roundg (L.length - (k + 1))
        case measure => omega
        case rel => exact ⟨k + 1, by omega, rfl, by go_num, by rw [Hsn.out]; exact hrow, hb5, hon⟩
      | false =>
        rw [hd] at hn4
        rw [hd, if_neg (by simp)] at hsn
        have Hsn := Lib.hid hsn
        have HA := Lib.hid (handle_at D i r x p.vp p.vd p.vq p.rows wr h1 hlen Hx.out)
        clear hsn hx hd hts h1 hp1 hqrow hvp hlife hLk hi
        go_wp2_with fail
        refine HA.out.mono ?_
        rintro e w' ⟨rfl, rfl⟩
        go_wp2_with (at_builtin; (refine wpList_append_lies _ rfl (.tmp 40) (.tmp 44) _ rfl 0 tH i0 _ 2 8 Try.underlying27 hi0 hz0 hz1 hz2 rfl (by omega) u5 (rall r.places (L.take k)).length _ rfl ((World.ownsRow.alloc hrow.out.own _).alloc _) ⟨wr.heap.size + 1, 0, none⟩ 1 1 (Hd.cells ⟨i, x.life⟩) rfl rfl (World.news_of_block (blk_new' _ _ _ (by simp))) (by simp [Hd.cells, Value.oneCell']) (by omega) (bytesH _ hrl).1 (bytesH _ hrl).2 (by omega) _ rfl ?_); intro g' cap w2 hown hgrow hat hlt1)
        have hon2 : Only Nil w w2 := ((hon.alloc _).alloc _).grown hgrow (fun b hb hlt => by have := hb5.out b hb; omega)
        have hs1 := hon.size
        have hrow2 : HRow w2 (.slice (some ⟨g', 0, none⟩) ((rall r.places (L.take k)).length + 1) cap) (rall r.places (L.take (k + 1))) := by
          rw [Hsn.out]; unfold HRow; simpa using hown
        have hb2 : ∀ b, (Value.slice (some ⟨g', 0, none⟩) ((rall r.places (L.take k)).length + 1) cap).ownBlock = some b → w.heap.size ≤ b := fun b hb => by
          have := ob_eq hb
          subst this
          rcases hat with h | h
          · exact hb5.out _ h
          · simp only [World.size_alloc] at h; omega
        have HR2 := Lib.hid hrow2
        have HB2 := Lib.hid hb2
        clear hown hgrow hat hlt1 hrow2 hb2
        go_roundg (L.length - (k + 1))
        case measure => omega
        case rel => exact ⟨k + 1, by omega, rfl, by go_num, HR2, HB2, hon2⟩
    · have he : k = L.length := by omega
      subst he
      have hfin := hrow.out
      rw [List.take_length] at hfin
      have Hfin := Lib.hid hfin
      clear hfin
      go_wp2
      go_ret
      exact ⟨_, rfl, Hfin.out, hb5.out, hon⟩
end Rfw
end Go.Proofs.Ytnhedhmffgaohaa
