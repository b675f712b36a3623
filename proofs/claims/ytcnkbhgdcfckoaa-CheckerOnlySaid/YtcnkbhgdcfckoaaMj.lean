/- The walk of slices.Clone of orders. -/
import Derived.Test.YtcnkbhgdcfckoaaMh
import Derived.Test.YtcnkbhgdcfckoaaMi
import Derived.Test.YtcnkbhgdcfckoaaMb
import Derived.Lib.SliceRun
set_option linter.unusedVariables false
set_option linter.unusedSimpArgs false
namespace Go.Proofs.Ytcnkbhgdcfckoaa
open Go.RowKit
namespace Ck
set_option maxHeartbeats 800000 in
set_option maxRecDepth 100000 in
theorem clone_any (v : Value) (l : List Rs) (w : World) (h : w.ownsRow 0 tR 7 v l.length (l.flatMap Rs.cells)) (hl : l.length ≤ 1000000) :
    Calls Try.prog 40 #[v] w fun e w' => (∃ v', e = .returned v' ∧ w'.ownsRow 0 tR 7 v' l.length (l.flatMap Rs.cells) ∧ (∀ k, v'.ownBlock = some k → w.heap.size ≤ k)) ∧ Only Nil w w' := by
  obtain ⟨A, c, rfl, hnc⟩ := own_slice h
  cases A with
  | none =>
    have hl0 : l = [] := by
      rcases h.2 with ⟨e, h0⟩ | ⟨g, c', cur, e, _⟩
      · exact List.length_eq_zero_iff.1 h0
      · cases e
    subst hl0
    have hc0 : c = 0 := by
      rcases h.2 with ⟨e, h0⟩ | ⟨g, c', cur, e, _⟩
      · injection e
      · cases e
    subst hc0
    have hE := fun (W : World) => Lib.run_eql_slice_nil (P := Try.prog) W 29 tR none 0 0 0 0 Try.underlying29
    clear h
    go_enter Try.func40, Try.ntmps40
    go_wp2
    go_ret
    exact ⟨⟨_, rfl, own_nil _ _ _ _, fun k hk => by cases hk⟩, Only.refl _ _⟩
  | some a =>
    have hE := fun (W : World) => Lib.run_eql_slice_nil (P := Try.prog) W 29 tR (some a) l.length c 0 0 Try.underlying29
    obtain ⟨i0, hi0, hz0, hz1, hz2⟩ := info_parts infoRsB
    have HX := Lib.hid h
    have hD : (w.alloc (.cells #[] tR)).ownsRow 0 tR 7 (.slice (some ⟨w.heap.size, 0, none⟩) 0 0) 0 [] := ⟨rfl, .inr ⟨w.heap.size, 0, #[], rfl, Nat.zero_le _, blk_new _ _, Nat.le_refl _, Nat.zero_le _, rfl, rfl⟩⟩
    have HD := Lib.hid hD
    clear hD
    by_cases hl0 : l = []
    · subst hl0
      clear h
      simp only [List.length_nil] at *
      go_enter Try.func40, Try.ntmps40
      go_wp2
      go_ret
      exact ⟨⟨_, rfl, HD.out, fun k hk => by cases hk; exact Nat.le_refl _⟩, (Only.refl _ _).alloc _⟩
    · obtain ⟨g, c', e1, hg, _, hcm⟩ := own_row h (List.length_pos_iff.2 hl0)
      injection e1 with e1 _ e2
      injection e1 with e1
      subst e1
      subst e2
      have hpos : 0 < l.length := List.length_pos_iff.2 hl0
      have HN : Hid (∀ (j : Nat) (u : Value), (l.flatMap Rs.cells)[j]? = some u → (w.alloc (.cells #[] tR)).cell? ((⟨g, 0, none⟩ : Addr).add j) = some u) := Lib.hid (fun j u hu => by
        have h1 := own_cell (own_only HX.out ((Only.refl Nil w).alloc (.cells #[] tR)) (fun _ _ h => h)) hu
        rw [Addr.add_lit, Nat.zero_add]
        exact h1)
      clear h hl0 hcm
      go_enter Try.func40, Try.ntmps40
      go_wp2_with (at_builtin; (refine wpList_append_lies _ rfl (.tmp 5) (.tmp 6) tSl rfl 0 tR i0 _ 7 56 Try.underlying29 hi0 hz0 hz1 hz2 rfl (by omega) (.slice (some ⟨w.heap.size, 0, none⟩) 0 0) 0 [] rfl HD.out ⟨g, 0, none⟩ l.length c (l.flatMap Rs.cells) rfl (rs_len l) HN.out (one_flat l) hpos (by unfold maxLen; omega) (by omega) (by omega) (w.heap.size + 1) (by simp) ?_); intro g' cap w1 hown hgrow hat hlt)
      go_ret
      refine ⟨⟨.slice (some ⟨g', 0, none⟩) l.length cap, rfl, ?_, fun k hk => ?_⟩, ?_⟩
      · simpa using hown
      · have hk' : g' = k := Option.some.inj hk
        rcases hat with e | e
        · have : w.heap.size = g' := Option.some.inj e
          omega
        · omega
      · exact ((Only.refl _ w).alloc _).grown hgrow (fun k hk hlt => by have : w.heap.size = k := Option.some.inj hk; omega)
end Ck
end Go.Proofs.Ytcnkbhgdcfckoaa
