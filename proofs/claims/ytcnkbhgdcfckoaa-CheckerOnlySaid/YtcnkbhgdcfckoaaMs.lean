/- rejected, cancelled: each as one contract. -/
import Derived.Test.YtcnkbhgdcfckoaaMq
import Derived.Test.YtcnkbhgdcfckoaaMr
import Derived.Test.YtcnkbhgdcfckoaaMc
set_option linter.unusedVariables false
set_option linter.unusedSimpArgs false
namespace Go.Proofs.Ytcnkbhgdcfckoaa
open Go.RowKit
namespace Ck
theorem rejected_any (C : Nat) (b : Bk) (e : Ev) (v1 v2 p6 p7 : Value) (w : World) (h : BkRep w C b v1 v2 p6 p7) (hb : b.ok) :
    Calls Try.prog 33 #[.pointer (some ⟨C, 0, none⟩), .agg e.row] w fun r w' => r = .returned (.int .i64 (rejected b e)) ∧ Only Nil w w' := by
  by_cases hn : e = evRej e
  · cases hf : b.find e.target with
    | none => exact rej_n C b e v1 v2 p6 p7 w h hb hn hf
    | some q =>
      obtain ⟨s, i⟩ := q
      obtain ⟨hs, r, hd, _⟩ := find_at hf
      rcases hs with rfl | rfl
      · exact rej_1 C b e v1 v2 p6 p7 w h hb hn i r hf hd
      · exact rej_2 C b e v1 v2 p6 p7 w h hb hn i r hf hd
  · exact rej_form C b e v1 v2 p6 p7 w h hb hn
theorem fresh_refl (w : World) (C : Nat) (v1 v2 : Value) : Fresh w C v1 v2 v1 v2 := fun _ h => .inl h
theorem cancelled_any (C : Nat) (x : Pk) (e : Ev) (v1 v2 p6 p7 : Value) (w : World) (h : BkRep w C x.b v1 v2 p6 p7) (hb : x.b.ok) (hw : e.wf) (hi : x.ins = none) (hp : p7 = .pointer none) :
    Calls Try.prog 34 #[.pointer (some ⟨C, 0, none⟩), .agg e.row] w fun r w' => r = .returned (.int .i64 (cancelled x e).1) ∧
      ∃ v1' v2' p7', BkRep w' C (cancelled x e).2.b v1' v2' p6 p7' ∧ InsIs w' (cancelled x e).2.ins p7' ∧ (cancelled x e).2.now = x.now ∧ Fresh w C v1 v2 v1' v2' ∧ Only (Mine C v1 v2) w w' := by
  have same : ∀ {w' : World}, Only Nil w w' → ∃ v1' v2' p7', BkRep w' C x.b v1' v2' p6 p7' ∧ InsIs w' x.ins p7' ∧ x.now = x.now ∧ Fresh w C v1 v2 v1' v2' ∧ Only (Mine C v1 v2) w w' := fun ho =>
    ⟨v1, v2, p7, h.nil ho, .inl ⟨hi, hp⟩, rfl, fresh_refl w C v1 v2, ho.mono (fun _ _ q => q.elim)⟩
  unfold cancelled
  by_cases hr : e.reason ≠ 1 ∧ e.reason ≠ 2
  · rw [if_pos hr]
    exact (cancel_reason C x.b e v1 v2 p6 p7 w h hb hw (by simp [hr.1]) (by simp [hr.2])).mono fun r w' ⟨h1, h2⟩ => ⟨h1, same h2⟩
  · rw [if_neg hr]
    have hr' : (e.reason != 1) = false ∨ ((e.reason != 1) = true ∧ (e.reason != 2) = false) := by
      by_cases q1 : e.reason = 1
      · exact .inl (by simp [q1])
      · by_cases q2 : e.reason = 2
        · exact .inr ⟨by simp [q1], by simp [q2]⟩
        · exact absurd ⟨q1, q2⟩ hr
    cases hf : x.b.find e.id with
    | none => exact (cancel_none C x.b e v1 v2 p6 p7 w h hb hw hr' hf).mono fun r w' ⟨h1, h2⟩ => ⟨h1, same h2⟩
    | some q =>
      obtain ⟨s, i⟩ := q
      obtain ⟨hs, r, hd, _⟩ := find_at hf
      simp only [hd]
      by_cases hq : e.qty ≠ r.vis + r.hid
      · rw [if_pos hq]
        rcases hs with rfl | rfl
        · exact (cancel_qty1 C x.b e v1 v2 p6 p7 w h hb hw hr' i r hf hd (by simp [hq])).mono fun r w' ⟨h1, h2⟩ => ⟨h1, same h2⟩
        · exact (cancel_qty2 C x.b e v1 v2 p6 p7 w h hb hw hr' i r hf hd (by simp [hq])).mono fun r w' ⟨h1, h2⟩ => ⟨h1, same h2⟩
      · rw [if_neg hq]
        have hq' : (e.qty != r.vis + r.hid) = false := by simp; omega
        by_cases hn : e ≠ evCan e
        · rw [if_pos hn]
          rcases hs with rfl | rfl
          · exact (cancel_form1 C x.b e v1 v2 p6 p7 w h hb hw hr' i r hf hd hq' hn).mono fun r w' ⟨h1, h2⟩ => ⟨h1, same h2⟩
          · exact (cancel_form2 C x.b e v1 v2 p6 p7 w h hb hw hr' i r hf hd hq' hn).mono fun r w' ⟨h1, h2⟩ => ⟨h1, same h2⟩
        · rw [if_neg hn]
          have hn' : e = evCan e := Classical.not_not.1 hn
          by_cases hk : e.reason = 2
          · rw [if_pos hk]
            have hk' : (e.reason == 2) = true := by simp [hk]
            rcases hs with rfl | rfl
            · exact (cancel_ok12 C x.b e v1 v2 p6 p7 w h hb hw hr' i r hf hd hq' hn' hk').mono fun r' w' ⟨h1, v1', v2', H, h2, h3, h4, h5⟩ => ⟨h1, v1', v2', _, h2, .inr ⟨_, _, _, H, rfl, rfl, h3⟩, rfl, h4, h5⟩
            · exact (cancel_ok22 C x.b e v1 v2 p6 p7 w h hb hw hr' i r hf hd hq' hn' hk').mono fun r' w' ⟨h1, v1', v2', H, h2, h3, h4, h5⟩ => ⟨h1, v1', v2', _, h2, .inr ⟨_, _, _, H, rfl, rfl, h3⟩, rfl, h4, h5⟩
          · rw [if_neg hk]
            have hk' : (e.reason == 2) = false := by simp [hk]
            rcases hs with rfl | rfl
            · exact (cancel_ok11 C x.b e v1 v2 p6 p7 w h hb hw hr' i r hf hd hq' hn' hk').mono fun r' w' ⟨h1, v1', v2', h2, h4, h5⟩ => ⟨h1, v1', v2', _, h2, .inl ⟨hi, hp⟩, rfl, h4, h5⟩
            · exact (cancel_ok21 C x.b e v1 v2 p6 p7 w h hb hw hr' i r hf hd hq' hn' hk').mono fun r' w' ⟨h1, v1', v2', h2, h4, h5⟩ => ⟨h1, v1', v2', _, h2, .inl ⟨hi, hp⟩, rfl, h4, h5⟩
end Ck
end Go.Proofs.Ytcnkbhgdcfckoaa
