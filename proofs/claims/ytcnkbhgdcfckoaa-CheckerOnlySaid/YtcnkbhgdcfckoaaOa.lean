/- The walks of the law's fit and events. -/
import Derived.Test.YtcnkbhgdcfckoaaNi
import Derived.Test.YtcnkbhgdcfckoaaMw
import Derived.ProofKit
import Derived.OpenShut
import Derived.Deep.Slices
set_option linter.unusedVariables false
set_option linter.unusedSimpArgs false
namespace Go.Proofs.Ytcnkbhgdcfckoaa
open Go.RowKit
namespace Ck
/-- What a slice shows, event by event, wherever it lies. -/
structure LA (w : World) (v : Value) (l : List Ev) : Prop where
  sl : ∃ A c, v = .slice A l.length c ∧ l.length ≤ c ∧ c ≤ 9223372036854775807
  row : l ≠ [] → ∃ g off c, v = .slice (some ⟨g, off, none⟩) l.length c ∧ g < w.heap.size ∧ ∀ (k : Nat) (u : Value), (l.flatMap Ev.cells)[k]? = some u → w.cell? ⟨g, off + k, none⟩ = some u
theorem LA.nil {w w1 : World} {v : Value} {l : List Ev} (h : LA w v l) (ho : Only Nil w w1) : LA w1 v l :=
  ⟨h.sl, fun hl => by
    obtain ⟨g, off, c, h1, h2, h3⟩ := h.row hl
    exact ⟨g, off, c, h1, by have := ho.size; omega, fun k u hu => by rw [ho.cell (p := ⟨g, off + k, none⟩) h2 (fun q => q)]; exact h3 k u hu⟩⟩
theorem Lst.la {w : World} {v : Value} {l : List Ev} (h : LE w v l) : LA w v l :=
  ⟨h.sl, fun hl => by
    obtain ⟨g, off, c, cs, h1, h2, h3⟩ := h.row hl
    exact ⟨g, off, c, h1, blk_lt h2, fun k u hu => by rw [blk_cell h2]; exact h3 k u hu⟩⟩
theorem LA.gives {w : World} {v : Value} {l : List Ev} (h : LA w v l) : Gives w v l.length (l.flatMap Ev.cells) := by
  obtain ⟨A, c, rfl, _, _⟩ := h.sl
  refine ⟨A, c, rfl, fun hpos => ?_⟩
  obtain ⟨g, off, c', h1, h2, h3⟩ := h.row (List.length_pos_iff.1 hpos)
  injection h1 with h1 _ _
  subst h1
  exact ⟨_, rfl, fun j u hu => by rw [Addr.add_lit]; exact h3 j u hu⟩
theorem LA.gete {w : World} {A : Option Addr} {n c i : Nat} {l : List Ev} {r : Ev} (h : LA w (.slice A n c) l) (hr : l[i]? = some r) : ∃ g off, A = some ⟨g, off, none⟩ ∧ n = l.length ∧ i < l.length ∧ g < w.heap.size ∧ ∀ k u, k < 13 → r.cells[k]? = some u → w.cell? ⟨g, off + i * 13 + k, none⟩ = some u := by
  have hi := (List.getElem?_eq_some_iff.1 hr).1
  obtain ⟨g, off, c', h1, h2, h3⟩ := h.row (by intro e; rw [e] at hr; simp at hr)
  injection h1 with e1 e2 _
  exact ⟨g, off, e1, e2, hi, h2, fun k u hk hu => by
    rw [Nat.add_assoc]
    exact h3 _ _ (by rw [lay_get (fun a _ => a.len) hr hk]; exact hu)⟩
set_option maxHeartbeats 1600000 in
set_option maxRecDepth 100000 in
theorem fitL_any (cap meet : Int) (w : World) :
    Calls Try.prog 6 #[.agg #[.int .i64 cap, .int .i64 meet]] w fun e w' => e = .returned (.bool (fit cap meet)) ∧ Only Nil w w' := by
  have hq : (decide (1 ≤ cap) = true ∧ decide (cap ≤ 4096) = true ∧ decide (0 ≤ meet) = true) ∨ (decide (1 ≤ cap) = true ∧ decide (cap ≤ 4096) = true ∧ decide (0 ≤ meet) = false) ∨ (decide (1 ≤ cap) = true ∧ decide (cap ≤ 4096) = false) ∨ decide (1 ≤ cap) = false := by
    by_cases h1 : 1 ≤ cap <;> by_cases h2 : cap ≤ 4096 <;> by_cases h3 : 0 ≤ meet <;> simp [h1, h2, h3]
  unfold fit
  rcases hq with ⟨h1, h2, h3⟩ | ⟨h1, h2, h3⟩ | ⟨h1, h2⟩ | h1
  all_goals
    go_enter Try.func6, Try.ntmps6
    go_wp2
    try (go_quiet (fail); go_wp2)
    go_ret
    refine ⟨?_, ?_⟩
    · simp [*]
    · first | exact (Only.refl Nil w).alloc _ | exact ((Only.refl Nil w).alloc _).drewN _
set_option maxHeartbeats 1600000 in
set_option maxRecDepth 100000 in
theorem events_any (v1 v2 : Value) (l1 l2 : List Ev) (w : World) (h1 : LA w v1 l1) (h2 : LA w v2 l2) :
    Calls Try.prog 10 #[v1, v2] w fun r w' => r = .returned (.bool (decide (l1 = l2))) ∧ Only Nil w w' := by
  obtain ⟨A1, c1, rfl, q1, q2⟩ := h1.sl
  obtain ⟨A2, c2, rfl, q3, q4⟩ := h2.sl
  have hm1 : l1.length ≤ 9223372036854775807 := by omega
  have hm2 : l2.length ≤ 9223372036854775807 := by omega
  have H1 := Lib.hid h1
  have H2 := Lib.hid h2
  clear h1 h2 q1 q2 q3 q4
  by_cases hln : l1.length = l2.length
  case neg =>
    have hb : ((l1.length : Int) != (l2.length : Int)) = true := by simp; omega
    have HN : Hid (decide (l1 = l2) = false) := Lib.hid (by simp; intro e; exact hln (by rw [e]))
    clear hln
    go_enter Try.func10, Try.ntmps10
    go_wp2
    go_ret
    exact ⟨by rw [HN.out]; rfl, Only.refl _ _⟩
  have hb : ((l1.length : Int) != (l2.length : Int)) = false := by simp; omega
  have HLn := Lib.hid hln
  clear hln
  go_enter Try.func10, Try.ntmps10
  go_wp2
  go_loopg [5] (l1.length) (fun m v5 wr => ∃ k : Nat, k ≤ l1.length ∧ m = l1.length - k ∧ v5 = .int .i64 k ∧ Hid (l1.take k = l2.take k) ∧ Hid (Only Nil w wr))
  case atStart => exact ⟨0, by omega, by omega, rfl, Lib.hid (by simp), Lib.hid (Only.refl _ _)⟩
  case round =>
    obtain ⟨k, hk, hm, rfl, HT, HO⟩ := hrel
    have HMs := Lib.hid hm
    clear hm
    by_cases hlt : k < l1.length
    · have hlt2 : k < l2.length := by have := HLn.out; omega
      have hkI : (k : Int) < (l1.length : Int) := by omega
      have hkJ : (k : Int) < (l2.length : Int) := by omega
      have hx : l1[k]? = some l1[k] := List.getElem?_eq_getElem hlt
      have hy : l2[k]? = some l2[k] := List.getElem?_eq_getElem hlt2
      obtain ⟨g, off, rfl, _, _, hg, ha⟩ := (H1.out.nil HO.out).gete hx
      obtain ⟨g', off', rfl, _, _, hg', ha'⟩ := (H2.out.nil HO.out).gete hy
      have a0 := ha 0 _ (by omega) rfl
      have a1 := ha 1 _ (by omega) rfl
      have a2 := ha 2 _ (by omega) rfl
      have a3 := ha 3 _ (by omega) rfl
      have a4 := ha 4 _ (by omega) rfl
      have a5 := ha 5 _ (by omega) rfl
      have a6 := ha 6 _ (by omega) rfl
      have a7 := ha 7 _ (by omega) rfl
      have a8 := ha 8 _ (by omega) rfl
      have a9 := ha 9 _ (by omega) rfl
      have a10 := ha 10 _ (by omega) rfl
      have a11 := ha 11 _ (by omega) rfl
      have a12 := ha 12 _ (by omega) rfl
      simp only [Nat.add_zero] at a0
      have b0 := ha' 0 _ (by omega) rfl
      have b1 := ha' 1 _ (by omega) rfl
      have b2 := ha' 2 _ (by omega) rfl
      have b3 := ha' 3 _ (by omega) rfl
      have b4 := ha' 4 _ (by omega) rfl
      have b5 := ha' 5 _ (by omega) rfl
      have b6 := ha' 6 _ (by omega) rfl
      have b7 := ha' 7 _ (by omega) rfl
      have b8 := ha' 8 _ (by omega) rfl
      have b9 := ha' 9 _ (by omega) rfl
      have b10 := ha' 10 _ (by omega) rfl
      have b11 := ha' 11 _ (by omega) rfl
      have b12 := ha' 12 _ (by omega) rfl
      simp only [Nat.add_zero] at b0
      have HX := Lib.hid hx
      have HY := Lib.hid hy
      generalize l1[k] = e at *
      generalize l2[k] = f at *
      clear ha ha' hx hy
      have hn := run_ev_neq e f
      unfold Ev.row at hn
      by_cases hef : e = f
      · have hd : (!decide (e = f)) = false := by simp [hef]
        rw [hd] at hn
        have HT1 : Hid (l1.take (k + 1) = l2.take (k + 1)) := Lib.hid (by rw [List.take_add_one, List.take_add_one, HX.out, HY.out, HT.out, hef])
        clear hd hef HX HY HT
        go_upto_region 6 with fail
        go_quiet (fail)
        go_wp2
        go_roundg (l1.length - (k + 1))
        case measure => have := HMs.out; omega
        case rel => exact ⟨k + 1, by omega, rfl, by go_num, HT1, Lib.hid (HO.out.drewN _)⟩
      · have hd : (!decide (e = f)) = true := by simp [hef]
        rw [hd] at hn
        have HN : Hid (decide (l1 = l2) = false) := Lib.hid (by
          simp only [decide_eq_false_iff_not]
          intro q
          rw [q, HY.out] at HX
          exact hef (Option.some.inj HX.out).symm)
        clear hd hef HX HY HT
        go_upto_region 6 with fail
        go_quiet (fail)
        go_wp2
        go_ret
        exact ⟨by rw [HN.out]; rfl, HO.out.drewN _⟩
    · have hkI : ¬ ((k : Int) < (l1.length : Int)) := by omega
      have HN : Hid (decide (l1 = l2) = true) := Lib.hid (by
        have h := HT.out
        have hk2 := HLn.out
        rw [List.take_of_length_le (by omega), List.take_of_length_le (by omega)] at h
        simp [h])
      go_wp2
      go_ret
      exact ⟨by rw [HN.out]; rfl, HO.out⟩
end Ck
end Go.Proofs.Ytcnkbhgdcfckoaa
namespace Go.Proofs.Ytcnkbhgdcfckoaa
open Go.RowKit Go.ChangeShapes Go.WideShapes
namespace Ck
theorem list13 {α : Type} {l : List α} (h : l.length = 13) : ∃ v0 v1 v2 v3 v4 v5 v6 v7 v8 v9 v10 v11 v12, l = [v0, v1, v2, v3, v4, v5, v6, v7, v8, v9, v10, v11, v12] := by
  match l, h with
  | [v0, v1, v2, v3, v4, v5, v6, v7, v8, v9, v10, v11, v12], _ => exact ⟨v0, v1, v2, v3, v4, v5, v6, v7, v8, v9, v10, v11, v12, rfl⟩
theorem list2' {α : Type} {l : List α} (h : l.length = 2) : ∃ a b, l = [a, b] := by
  match l, h with
  | [a, b], _ => exact ⟨a, b, rfl⟩
theorem cellI : Try.prog.cellsOf 3 = 1 := by kernel_rfl
theorem cellU : Try.prog.cellsOf 30 = 1 := by kernel_rfl
theorem cellM : Try.prog.cellsOf 35 = 1 := by kernel_rfl
theorem cellR : Try.prog.cellsOf 25 = 1 := by kernel_rfl
theorem cellE : Try.prog.cellsOf 37 = 13 := by kernel_rfl
theorem cellF : Try.prog.cellsOf 23 = 2 := by kernel_rfl
theorem u32_r {n : Int} (h : (Lit.int .u32 n).wf = true) : 0 ≤ n ∧ n < 4294967296 := by
  simp [Lit.wf, IntKind.min, IntKind.max, IntKind.signed, IntKind.bits] at h
  omega
theorem u64_r {n : Int} (h : (Lit.int .u64 n).wf = true) : 0 ≤ n ∧ n < 18446744073709551616 := by
  simp [Lit.wf, IntKind.min, IntKind.max, IntKind.signed, IntKind.bits] at h
  omega
theorem i64_r {n : Int} (h : (Lit.int .i64 n).wf = true) : -9223372036854775808 ≤ n ∧ n ≤ 9223372036854775807 := by
  simp [Lit.wf, IntKind.min, IntKind.max, IntKind.signed, IntKind.bits] at h
  omega
section
variable {H : Type} {enc : TypeId × Value → H} {w : World} {base : Nat} {spare : Nat → Bool} {held : Bool}
set_option maxRecDepth 100000 in
theorem open_ev {fuel : Nat} {cs : List Value} {x : DataW H × List MemPlace} (h : DataW.trod enc Try.prog w base spare held fuel 37 cs = some x) : ∃ e : Ev, e.wf ∧ cs = e.cells := by
  obtain ⟨xs, n, _, _, hl, hxl, hf⟩ := DataW.trod_struct Try.underlying37 h
  rw [cellE] at hl
  obtain ⟨v0, v1, v2, v3, v4, v5, v6, v7, v8, v9, v10, v11, v12, rfl⟩ := list13 hl
  have hxl' : xs.length = 13 := hxl
  have g0 : DataW.trod enc Try.prog w base spare held n 30 (([v0, v1, v2, v3, v4, v5, v6, v7, v8, v9, v10, v11, v12].drop 0).take (Try.prog.cellsOf 30)) = xs[0]? := hf 0 _ rfl
  have g1 : DataW.trod enc Try.prog w base spare held n 3 (([v0, v1, v2, v3, v4, v5, v6, v7, v8, v9, v10, v11, v12].drop 1).take (Try.prog.cellsOf 3)) = xs[1]? := hf 1 _ rfl
  have g2 : DataW.trod enc Try.prog w base spare held n 30 (([v0, v1, v2, v3, v4, v5, v6, v7, v8, v9, v10, v11, v12].drop 2).take (Try.prog.cellsOf 30)) = xs[2]? := hf 2 _ rfl
  have g3 : DataW.trod enc Try.prog w base spare held n 30 (([v0, v1, v2, v3, v4, v5, v6, v7, v8, v9, v10, v11, v12].drop 3).take (Try.prog.cellsOf 30)) = xs[3]? := hf 3 _ rfl
  have g4 : DataW.trod enc Try.prog w base spare held n 30 (([v0, v1, v2, v3, v4, v5, v6, v7, v8, v9, v10, v11, v12].drop 4).take (Try.prog.cellsOf 30)) = xs[4]? := hf 4 _ rfl
  have g5 : DataW.trod enc Try.prog w base spare held n 35 (([v0, v1, v2, v3, v4, v5, v6, v7, v8, v9, v10, v11, v12].drop 5).take (Try.prog.cellsOf 35)) = xs[5]? := hf 5 _ rfl
  have g6 : DataW.trod enc Try.prog w base spare held n 3 (([v0, v1, v2, v3, v4, v5, v6, v7, v8, v9, v10, v11, v12].drop 6).take (Try.prog.cellsOf 3)) = xs[6]? := hf 6 _ rfl
  have g7 : DataW.trod enc Try.prog w base spare held n 3 (([v0, v1, v2, v3, v4, v5, v6, v7, v8, v9, v10, v11, v12].drop 7).take (Try.prog.cellsOf 3)) = xs[7]? := hf 7 _ rfl
  have g8 : DataW.trod enc Try.prog w base spare held n 3 (([v0, v1, v2, v3, v4, v5, v6, v7, v8, v9, v10, v11, v12].drop 8).take (Try.prog.cellsOf 3)) = xs[8]? := hf 8 _ rfl
  have g9 : DataW.trod enc Try.prog w base spare held n 30 (([v0, v1, v2, v3, v4, v5, v6, v7, v8, v9, v10, v11, v12].drop 9).take (Try.prog.cellsOf 30)) = xs[9]? := hf 9 _ rfl
  have g10 : DataW.trod enc Try.prog w base spare held n 30 (([v0, v1, v2, v3, v4, v5, v6, v7, v8, v9, v10, v11, v12].drop 10).take (Try.prog.cellsOf 30)) = xs[10]? := hf 10 _ rfl
  have g11 : DataW.trod enc Try.prog w base spare held n 3 (([v0, v1, v2, v3, v4, v5, v6, v7, v8, v9, v10, v11, v12].drop 11).take (Try.prog.cellsOf 3)) = xs[11]? := hf 11 _ rfl
  have g12 : DataW.trod enc Try.prog w base spare held n 25 (([v0, v1, v2, v3, v4, v5, v6, v7, v8, v9, v10, v11, v12].drop 12).take (Try.prog.cellsOf 25)) = xs[12]? := hf 12 _ rfl
  rw [cellU, List.getElem?_eq_getElem (by omega)] at g0
  rw [cellI, List.getElem?_eq_getElem (by omega)] at g1
  rw [cellU, List.getElem?_eq_getElem (by omega)] at g2
  rw [cellU, List.getElem?_eq_getElem (by omega)] at g3
  rw [cellU, List.getElem?_eq_getElem (by omega)] at g4
  rw [cellM, List.getElem?_eq_getElem (by omega)] at g5
  rw [cellI, List.getElem?_eq_getElem (by omega)] at g6
  rw [cellI, List.getElem?_eq_getElem (by omega)] at g7
  rw [cellI, List.getElem?_eq_getElem (by omega)] at g8
  rw [cellU, List.getElem?_eq_getElem (by omega)] at g9
  rw [cellU, List.getElem?_eq_getElem (by omega)] at g10
  rw [cellI, List.getElem?_eq_getElem (by omega)] at g11
  rw [cellR, List.getElem?_eq_getElem (by omega)] at g12
  obtain ⟨n0, e0, _, w0⟩ := DataW.trod_int Try.underlying30 g0
  obtain ⟨n1, e1, _, w1⟩ := DataW.trod_int Try.underlying3 g1
  obtain ⟨n2, e2, _, w2⟩ := DataW.trod_int Try.underlying30 g2
  obtain ⟨n3, e3, _, w3⟩ := DataW.trod_int Try.underlying30 g3
  obtain ⟨n4, e4, _, w4⟩ := DataW.trod_int Try.underlying30 g4
  obtain ⟨n5, e5, _, w5⟩ := DataW.trod_int Try.underlying35 g5
  obtain ⟨n6, e6, _, w6⟩ := DataW.trod_int Try.underlying3 g6
  obtain ⟨n7, e7, _, w7⟩ := DataW.trod_int Try.underlying3 g7
  obtain ⟨n8, e8, _, w8⟩ := DataW.trod_int Try.underlying3 g8
  obtain ⟨n9, e9, _, w9⟩ := DataW.trod_int Try.underlying30 g9
  obtain ⟨n10, e10, _, w10⟩ := DataW.trod_int Try.underlying30 g10
  obtain ⟨n11, e11, _, w11⟩ := DataW.trod_int Try.underlying3 g11
  obtain ⟨n12, e12, _, w12⟩ := DataW.trod_int Try.underlying25 g12
  simp at e0 e1 e2 e3 e4 e5 e6 e7 e8 e9 e10 e11 e12
  subst e0 e1 e2 e3 e4 e5 e6 e7 e8 e9 e10 e11 e12
  exact ⟨⟨n0, n1, n2, n3, n4, n5, n6, n7, n8, n9, n10, n11, n12⟩, ⟨u64_r w0, i64_r w1, u64_r w2, u64_r w3, u64_r w4, u32_r w5, i64_r w6, i64_r w7, i64_r w8, u64_r w9, u64_r w10, i64_r w11, i64_r w12⟩, rfl⟩
theorem evs_of (P : Nat → Ev → Prop) : ∀ (n : Nat), (∀ k, k < n → ∃ e : Ev, e.wf ∧ P k e) → ∃ l : List Ev, l.length = n ∧ (∀ e ∈ l, e.wf) ∧ ∀ k e, l[k]? = some e → P k e
  | 0, _ => ⟨[], rfl, fun e he => (by cases he), fun k e he => (by simp at he)⟩
  | n + 1, h => by
    obtain ⟨l, h1, h2, h3⟩ := evs_of P n (fun k hk => h k (by omega))
    obtain ⟨e, he, hf⟩ := h n (by omega)
    refine ⟨l ++ [e], by simp [h1], fun q hq => ?_, fun k q hq => ?_⟩
    · rcases List.mem_append.1 hq with g | g
      · exact h2 q g
      · rw [List.mem_singleton.1 g]; exact he
    · rcases Nat.lt_or_ge k n with g | g
      · rw [List.getElem?_append_left (by omega)] at hq
        exact h3 k q hq
      · rw [List.getElem?_append_right (by omega), h1] at hq
        have hk : k = n := by
          have := (List.getElem?_eq_some_iff.1 hq).1
          simp at this
          omega
        subst hk
        simp at hq
        subst hq
        exact hf
theorem flat_get {l : List Ev} {J : Nat} {u : Value} (h : (l.flatMap Ev.cells)[J]? = some u) : ∃ k j e, J = k * 13 + j ∧ j < 13 ∧ l[k]? = some e ∧ e.cells[j]? = some u := by
  have hJ := (List.getElem?_eq_some_iff.1 h).1
  rw [ev_flat] at hJ
  have hk : J / 13 < l.length := by omega
  have hj : J % 13 < 13 := by omega
  have he : J = J / 13 * 13 + J % 13 := by omega
  have hx : l[J / 13]? = some l[J / 13] := List.getElem?_eq_getElem hk
  refine ⟨J / 13, J % 13, l[J / 13], he, hj, hx, ?_⟩
  rw [he] at h
  rw [← h]
  exact (lay_get (fun a _ => a.len) hx hj).symm
set_option maxRecDepth 100000 in
theorem open_evs {fuel : Nat} {a1 : Option Addr} {len1 cap1 : Nat} {x : DataW H × List MemPlace} (hs : ∀ b, spare b = true) (h : DataW.trod enc Try.prog w base spare held fuel 24 (Value.cells (.slice a1 len1 cap1)).toList = some x) :
    ∃ l : List Ev, (∀ e ∈ l, e.wf) ∧ LA w (.slice a1 len1 cap1) l := by
  rcases Deep.open_slice Try.underlying24 h with ⟨hcs, _⟩ | ⟨a, len, cap, m, n, D, Pl, hcs, hb, hl, hm, hmm, hx, hel⟩
  · simp [Value.cells] at hcs
    obtain ⟨rfl, rfl, rfl⟩ := hcs
    exact ⟨[], fun e he => (by cases he), ⟨⟨_, _, rfl, Nat.le_refl _, by omega⟩, fun q => absurd rfl q⟩⟩
  · simp [Value.cells] at hcs
    obtain ⟨rfl, rfl, rfl⟩ := hcs
    rw [hs, if_pos rfl] at hmm
    obtain ⟨b, off, sp⟩ := a
    have hcl : ∀ k, k < len1 → ∃ e : Ev, e.wf ∧ ∀ j u, e.cells[j]? = some u → w.cell? (((⟨b, off, sp⟩ : Addr).add (k * 13)).add j) = some u := fun k hk => by
      obtain ⟨cs', hc, ht⟩ := hel k (by omega)
      rw [cellE] at hc
      obtain ⟨_, hcl, hcell⟩ := World.cells?_some hc
      obtain ⟨e, he, rfl⟩ := open_ev ht
      refine ⟨e, he, fun j u hu => ?_⟩
      have := hcell j (by rw [← hcl]; exact (List.getElem?_eq_some_iff.1 hu).1)
      rw [this]
      exact hu
    have hsp : 0 < len1 → sp = none := fun h0 => by
      obtain ⟨e, _, hc⟩ := hcl 0 h0
      have h00 := hc 0 _ rfl
      simpa [Addr.add] using World.cell?_spot h00
    obtain ⟨l, l1, l2, l3⟩ := evs_of (fun k e => ∀ j u, e.cells[j]? = some u → w.cell? (((⟨b, off, sp⟩ : Addr).add (k * 13)).add j) = some u) len1 hcl
    subst l1
    unfold maxLen at hm
    refine ⟨l, l2, ⟨⟨_, _, rfl, by omega, by omega⟩, fun hne => ?_⟩⟩
    have hpos := List.length_pos_iff.2 hne
    have hs0 := hsp hpos
    subst hs0
    refine ⟨b, off, cap1, rfl, ?_, fun J u hu => ?_⟩
    · obtain ⟨e, _, hc⟩ := hcl 0 hpos
      have h00 := hc 0 _ rfl
      rw [Addr.add_lit, Addr.add_lit] at h00
      exact World.block_lt_of_cell? w _ h00
    · obtain ⟨k, j, e, rfl, hj, hke, hju⟩ := flat_get hu
      have := l3 k e hke j u hju
      rw [Addr.add_lit, Addr.add_lit, Nat.add_assoc] at this
      exact this
end
end Ck
end Go.Proofs.Ytcnkbhgdcfckoaa
