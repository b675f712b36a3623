/- A slice of steps that came in, opened: what the walk of ArenaOrder is told of it. -/
import Derived.Test.YtnhedhmffgaohaaOpv
import Derived.Test.YtnhedhmffgaohaaProg
import Derived.ProofKit
import Derived.OpenShut
import Derived.Deep.Slices
namespace Go.Proofs.Ytnhedhmffgaohaa
open Go.RowKit Go.ChangeShapes Go.WideShapes
namespace Or

theorem list7 {α : Type} {l : List α} (h : l.length = 7) : ∃ a b c d e f g, l = [a, b, c, d, e, f, g] := by
  match l, h with
  | [a, b, c, d, e, f, g], _ => exact ⟨a, b, c, d, e, f, g, rfl⟩
theorem list2 {α : Type} {l : List α} (h : l.length = 2) : ∃ a b, l = [a, b] := by
  match l, h with
  | [a, b], _ => exact ⟨a, b, rfl⟩
theorem cell3 : Try.prog.cellsOf 3 = 1 := by kernel_rfl
theorem cell4 : Try.prog.cellsOf 4 = 1 := by kernel_rfl
theorem cell30 : Try.prog.cellsOf 30 = 1 := by kernel_rfl
theorem cell32 : Try.prog.cellsOf 32 = 2 := by kernel_rfl
theorem cell46 : Try.prog.cellsOf 46 = 7 := by kernel_rfl
theorem u32_range {n : Int} (h : (Lit.int .u32 n).wf = true) : 0 ≤ n ∧ n < 4294967296 := by
  simp [Lit.wf, IntKind.min, IntKind.max, IntKind.signed, IntKind.bits] at h
  omega
theorem i64_range' {n : Int} (h : (Lit.int .i64 n).wf = true) : -9223372036854775808 ≤ n ∧ n ≤ 9223372036854775807 := by
  simp [Lit.wf, IntKind.min, IntKind.max, IntKind.signed, IntKind.bits] at h
  omega

section
variable {H : Type} {enc : TypeId × Value → H} {w : World} {base : Nat} {spare : Nat → Bool} {held : Bool}
set_option maxRecDepth 100000 in
theorem open_op {fuel : Nat} {cs : List Value} {x : DataW H × List MemPlace} (h : DataW.trod enc Try.prog w base spare held fuel 46 cs = some x) : ∃ o : Opv, o.ok ∧ cs = o.cells := by
  obtain ⟨xs, n, _, _, hl, hxl, hf⟩ := DataW.trod_struct Try.underlying46 h
  rw [cell46] at hl
  obtain ⟨v0, v1, v2, v3, v4, v5, v6, rfl⟩ := list7 hl
  have hxl' : xs.length = 6 := hxl
  have g0 : DataW.trod enc Try.prog w base spare held n 3 (([v0, v1, v2, v3, v4, v5, v6].drop 0).take (Try.prog.cellsOf 3)) = xs[0]? := hf 0 _ rfl
  have g1 : DataW.trod enc Try.prog w base spare held n 3 (([v0, v1, v2, v3, v4, v5, v6].drop 1).take (Try.prog.cellsOf 3)) = xs[1]? := hf 1 _ rfl
  have g2 : DataW.trod enc Try.prog w base spare held n 3 (([v0, v1, v2, v3, v4, v5, v6].drop 2).take (Try.prog.cellsOf 3)) = xs[2]? := hf 2 _ rfl
  have g3 : DataW.trod enc Try.prog w base spare held n 3 (([v0, v1, v2, v3, v4, v5, v6].drop 3).take (Try.prog.cellsOf 3)) = xs[3]? := hf 3 _ rfl
  have g4 : DataW.trod enc Try.prog w base spare held n 4 (([v0, v1, v2, v3, v4, v5, v6].drop 4).take (Try.prog.cellsOf 4)) = xs[4]? := hf 4 _ rfl
  have g5 : DataW.trod enc Try.prog w base spare held n 32 (([v0, v1, v2, v3, v4, v5, v6].drop 5).take (Try.prog.cellsOf 32)) = xs[5]? := hf 5 _ rfl
  rw [cell3] at g0 g1 g2 g3
  rw [cell4] at g4
  rw [cell32] at g5
  rw [List.getElem?_eq_getElem (by omega)] at g0 g1 g2 g3 g4 g5
  obtain ⟨n0, e0, _, w0⟩ := DataW.trod_int Try.underlying3 g0
  obtain ⟨n1, e1, _, w1⟩ := DataW.trod_int Try.underlying3 g1
  obtain ⟨n2, e2, _, w2⟩ := DataW.trod_int Try.underlying3 g2
  obtain ⟨n3, e3, _, w3⟩ := DataW.trod_int Try.underlying3 g3
  obtain ⟨b4, e4, _⟩ := DataW.trod_bool Try.underlying4 g4
  obtain ⟨ys, m, _, _, hl5, hyl, hf5⟩ := DataW.trod_struct Try.underlying32 g5
  have hyl' : ys.length = 2 := hyl
  have k0 : DataW.trod enc Try.prog w base spare held m 30 ((((([v0, v1, v2, v3, v4, v5, v6].drop 5).take 2)).drop 0).take (Try.prog.cellsOf 30)) = ys[0]? := hf5 0 _ rfl
  have k1 : DataW.trod enc Try.prog w base spare held m 30 ((((([v0, v1, v2, v3, v4, v5, v6].drop 5).take 2)).drop 1).take (Try.prog.cellsOf 30)) = ys[1]? := hf5 1 _ rfl
  rw [cell30] at k0 k1
  rw [List.getElem?_eq_getElem (by omega)] at k0 k1
  obtain ⟨n5, e5, _, w5⟩ := DataW.trod_int Try.underlying30 k0
  obtain ⟨n6, e6, _, w6⟩ := DataW.trod_int Try.underlying30 k1
  have r5 := u32_range w5
  have r6 := u32_range w6
  obtain ⟨m5, rfl⟩ := Int.eq_ofNat_of_zero_le r5.1
  obtain ⟨m6, rfl⟩ := Int.eq_ofNat_of_zero_le r6.1
  simp at e0 e1 e2 e3 e4 e5 e6
  subst e0 e1 e2 e3 e4 e5 e6
  exact ⟨⟨n0, n1, n2, n3, b4, m5, m6⟩, ⟨i64_range' w0, i64_range' w1, i64_range' w2, i64_range' w3, by show m5 < _; omega, by show m6 < _; omega⟩, rfl⟩

set_option maxRecDepth 100000 in
theorem open_ops {fuel : Nat} {a1 : Option Addr} {len1 cap1 : Nat} {x : DataW H × List MemPlace} (hs : ∀ b, spare b = true) (h : DataW.trod enc Try.prog w base spare held fuel 42 (Value.cells (.slice a1 len1 cap1)).toList = some x) : IsOps w a1 len1 := by
  rcases Deep.open_slice Try.underlying42 h with ⟨hcs, _⟩ | ⟨a, len, cap, m, n, D, Pl, hcs, hb, hl, hm, hmm, hx, hel⟩
  · simp [Value.cells] at hcs
    obtain ⟨rfl, rfl, rfl⟩ := hcs
    exact ⟨by omega, fun k hk => by omega⟩
  · simp [Value.cells] at hcs
    obtain ⟨rfl, rfl, rfl⟩ := hcs
    rw [hs, if_pos rfl] at hmm
    refine ⟨by unfold maxLen at hm; omega, fun k hk => ?_⟩
    obtain ⟨cs', hc, ht⟩ := hel k (by omega)
    rw [cell46] at hc
    obtain ⟨_, hcl, hcell⟩ := World.cells?_some hc
    obtain ⟨o, hok, rfl⟩ := open_op ht
    have h0 := hcell 0 (by omega)
    obtain ⟨b, off, sp⟩ := a
    have hsp : sp = none := by
      obtain ⟨cs0, hc0, ht0⟩ := hel 0 (by omega)
      rw [cell46] at hc0
      obtain ⟨_, _, hcell0⟩ := World.cells?_some hc0
      obtain ⟨o0, _, rfl⟩ := open_op ht0
      have h00 := hcell0 0 (by omega)
      have h01 : o0.cells[0]? = some (.int .i64 o0.kind) := rfl
      rw [h01] at h00
      simpa [Addr.add] using World.cell?_spot h00
    subst hsp
    have hadd : ∀ j, ((⟨b, off, none⟩ : Addr).add (k * 7)).add j = ⟨b, off + k * 7 + j, none⟩ := fun j => by rw [Addr.add_lit, Addr.add_lit]
    refine ⟨b, off, o, rfl, ?_, hok, fun j u hu => ?_⟩
    · rw [hadd] at h0
      exact World.block_lt_of_cell? w _ h0
    · have := hcell j (by rw [← hcl]; exact (List.getElem?_eq_some_iff.1 hu).1)
      rw [hadd, hu] at this
      exact this
end
end Or
end Go.Proofs.Ytnhedhmffgaohaa
