/- The walks of the document's amounts, Check. -/
import Derived.Test.YtcnkbhgdcfckoaaNc
import Derived.Test.YtcnkbhgdcfckoaaMc
import Derived.Test.YtcnkbhgdcfckoaaMv
set_option linter.unusedVariables false
set_option linter.unusedSimpArgs false
namespace Go.Proofs.Ytcnkbhgdcfckoaa
open Go.RowKit
namespace Ck
abbrev tCm : Nat := 39
def cmRow (c : Cm) : Array Value := #[.int .i64 c.kind, .int .u64 c.id, .int .u64 c.target, .int .u32 c.mem, .int .i64 c.side, .int .i64 c.typ, .int .i64 c.price, .int .u64 c.qty, .int .u64 c.peak]
theorem cm_cells {w : World} {B : Nat} {c : Cm} (h : w.heap[B]? = some (.cells (cmRow c) tCm (0, 0))) :
    w.cell? ⟨B, 0, none⟩ = some (.int .i64 c.kind) ∧ w.cell? ⟨B, 1, none⟩ = some (.int .u64 c.id) ∧ w.cell? ⟨B, 2, none⟩ = some (.int .u64 c.target) ∧ w.cell? ⟨B, 3, none⟩ = some (.int .u32 c.mem) ∧ w.cell? ⟨B, 4, none⟩ = some (.int .i64 c.side) ∧ w.cell? ⟨B, 5, none⟩ = some (.int .i64 c.typ) ∧ w.cell? ⟨B, 6, none⟩ = some (.int .i64 c.price) ∧ w.cell? ⟨B, 7, none⟩ = some (.int .u64 c.qty) ∧ w.cell? ⟨B, 8, none⟩ = some (.int .u64 c.peak) ∧ (∀ k, w.frozen? ⟨B, k, none⟩ = false) ∧ B < w.heap.size :=
  ⟨blk_cell h 0, blk_cell h 1, blk_cell h 2, blk_cell h 3, blk_cell h 4, blk_cell h 5, blk_cell h 6, blk_cell h 7, blk_cell h 8, fun k => blk_frozen h k, blk_lt h⟩
/-- What a command's numbers can be. -/
structure Cm.wf (c : Cm) : Prop where
  id : 0 ≤ c.id ∧ c.id < 18446744073709551616
  qty : 0 ≤ c.qty ∧ c.qty < 18446744073709551616
  peak : 0 ≤ c.peak ∧ c.peak < 18446744073709551616
def bad1 (c : Cm) (k : Int) : Prop := c.price < 0 ∨ 262144 ≤ c.price ∨ (k = 2 ∧ c.price ≠ 0)
def bad2 (c : Cm) : Prop := c.qty < 1 ∨ 4294967295 < c.qty
def bad3 (c : Cm) (k : Int) : Prop := c.qty < c.peak ∨ (c.peak ≠ 0 ∧ ((k ≠ 1 ∧ k ≠ 5) ∨ 256 * c.peak < c.qty))
instance (c : Cm) (k : Int) : Decidable (bad1 c k) := by unfold bad1; infer_instance
instance (c : Cm) : Decidable (bad2 c) := by unfold bad2; infer_instance
instance (c : Cm) (k : Int) : Decidable (bad3 c k) := by unfold bad3; infer_instance
theorem amounts_eq (c : Cm) (k : Int) : amounts c k = if bad1 c k then 94 else if bad2 c then 95 else if bad3 c k then 96 else if c.id = 0 then 97 else 0 := rfl
theorem way1 (c : Cm) (k : Int) : (decide (c.price < 0) = true ∧ bad1 c k) ∨ (decide (c.price < 0) = false ∧ decide (262144 ≤ c.price) = true ∧ bad1 c k) ∨ (decide (c.price < 0) = false ∧ decide (262144 ≤ c.price) = false ∧ (k == 2) = true ∧ (c.price != 0) = true ∧ bad1 c k) ∨
    (decide (c.price < 0) = false ∧ decide (262144 ≤ c.price) = false ∧ (k == 2) = true ∧ (c.price != 0) = false ∧ ¬ bad1 c k) ∨ (decide (c.price < 0) = false ∧ decide (262144 ≤ c.price) = false ∧ (k == 2) = false ∧ ¬ bad1 c k) := by
  unfold bad1
  by_cases h1 : c.price < 0 <;> by_cases h2 : 262144 ≤ c.price <;> by_cases h3 : k = 2 <;> by_cases h4 : c.price = 0 <;> simp [h1, h2, h3, h4]
theorem way2 (c : Cm) : (decide (c.qty < 1) = true ∧ bad2 c) ∨ (decide (c.qty < 1) = false ∧ decide (4294967295 < c.qty) = true ∧ bad2 c) ∨ (decide (c.qty < 1) = false ∧ decide (4294967295 < c.qty) = false ∧ ¬ bad2 c) := by
  unfold bad2
  by_cases h1 : c.qty < 1 <;> by_cases h2 : 4294967295 < c.qty <;> simp [h1, h2]
theorem way3 (c : Cm) (k : Int) : (decide (c.qty < c.peak) = true ∧ bad3 c k) ∨ (decide (c.qty < c.peak) = false ∧ (c.peak != 0) = false ∧ ¬ bad3 c k) ∨
    (decide (c.qty < c.peak) = false ∧ (c.peak != 0) = true ∧ (k != 1) = true ∧ (k != 5) = true ∧ bad3 c k) ∨
    (decide (c.qty < c.peak) = false ∧ (c.peak != 0) = true ∧ (k != 1) = false ∧ decide (256 * c.peak < c.qty) = true ∧ bad3 c k) ∨ (decide (c.qty < c.peak) = false ∧ (c.peak != 0) = true ∧ (k != 1) = false ∧ decide (256 * c.peak < c.qty) = false ∧ ¬ bad3 c k) ∨
    (decide (c.qty < c.peak) = false ∧ (c.peak != 0) = true ∧ (k != 1) = true ∧ (k != 5) = false ∧ decide (256 * c.peak < c.qty) = true ∧ bad3 c k) ∨ (decide (c.qty < c.peak) = false ∧ (c.peak != 0) = true ∧ (k != 1) = true ∧ (k != 5) = false ∧ decide (256 * c.peak < c.qty) = false ∧ ¬ bad3 c k) := by
  unfold bad3
  by_cases h1 : c.qty < c.peak
  · exact .inl ⟨by simp [h1], .inl h1⟩
  · by_cases h2 : c.peak = 0
    · refine .inr (.inl ⟨by simp [h1], by simp [h2], ?_⟩)
      rintro (q | ⟨q, _⟩)
      · exact h1 q
      · exact q h2
    · by_cases h3 : k = 1
      · by_cases h5 : 256 * c.peak < c.qty <;> simp [h1, h2, h3, h5]
      · by_cases h4 : k = 5
        · by_cases h5 : 256 * c.peak < c.qty <;> simp [h1, h2, h4, h5]
        · by_cases h5 : 256 * c.peak < c.qty <;> simp [h1, h2, h3, h4, h5]
set_option maxHeartbeats 1600000 in
set_option maxRecDepth 100000 in
theorem amountsR_any (c : Cm) (k : Int) (w : World) (hw : c.wf) :
    Calls Try.prog 63 #[.agg (cmRow c), .int .i64 k] w fun e w' => e = .returned (.int .i64 (amounts c k)) ∧ Only Nil w w' := by
  have HB := Lib.hid (blk_new w (.cells (cmRow c) tCm))
  have HO := Lib.hid ((Only.refl Nil w).alloc (.cells (cmRow c) tCm))
  have hq1 := hw.qty.1
  have hp1 := hw.peak.1
  clear hw
  go_enter Try.func63, Try.ntmps63
  go_upto_region 1 with fail
  generalize hW : World.alloc w _ = W0
  have hW' : w.alloc (.cells (cmRow c) tCm) = W0 := hW
  rw [hW'] at HB HO
  clear hW hW'
  obtain ⟨c0, c1, c2, c3, c4, c5, c6, c7, c8, cf, cl⟩ := cm_cells HB.out
  go_cut [21] from 5 to 58 (fun v21 wc => ∃ tb, v21 = .bool tb ∧ Hid (tb = decide (bad1 c k)) ∧ Hid (wc.heap[w.heap.size]? = some (.cells (cmRow c) tCm (0, 0))) ∧ Hid (Only Nil w wc))
  case first =>
    have hway := way1 c k
    rcases hway with ⟨k1, kz⟩ | ⟨k1, k2, kz⟩ | ⟨k1, k2, k3, k4, kz⟩ | ⟨k1, k2, k3, k4, kz⟩ | ⟨k1, k2, k3, kz⟩
    all_goals
      have HP := Lib.hid kz
      clear kz
      go_wp2
      go_meet
      case rel => first | exact ⟨true, rfl, Lib.hid (decide_eq_true HP.out).symm, HB, HO⟩ | exact ⟨false, rfl, Lib.hid (decide_eq_false HP.out).symm, HB, HO⟩
  case rest =>
    obtain ⟨tb, rfl, HTb, HB2, HO2⟩ := hcut
    clear HB HO c0 c1 c2 c3 c4 c5 c6 c7 c8 cf cl
    have HB := HB2
    have HO := HO2
    clear HB2 HO2
    obtain ⟨c0, c1, c2, c3, c4, c5, c6, c7, c8, cf, cl⟩ := cm_cells HB.out
    cases tb with
    | true =>
      have hP : bad1 c k := of_decide_eq_true HTb.out.symm
      have HR : Hid (amounts c k = 94) := Lib.hid (by rw [amounts_eq,  if_pos hP])
      clear hP
      go_wp2
      go_ret
      exact ⟨by rw [HR.out]; rfl, HO.out⟩
    | false =>
      have n21 : ¬ (bad1 c k) := of_decide_eq_false HTb.out.symm
      have HN21 := Lib.hid n21
      clear n21 HTb
      go_upto_region 3 with fail
      go_cut [29] from 5 to 58 (fun v29 wc => ∃ tb, v29 = .bool tb ∧ Hid (tb = decide (bad2 c)) ∧ Hid (wc.heap[w.heap.size]? = some (.cells (cmRow c) tCm (0, 0))) ∧ Hid (Only Nil w wc))
      case first =>
        have hway := way2 c
        rcases hway with ⟨k1, kz⟩ | ⟨k1, k2, kz⟩ | ⟨k1, k2, kz⟩
        all_goals
          have HP := Lib.hid kz
          clear kz
          go_wp2
          go_meet
          case rel => first | exact ⟨true, rfl, Lib.hid (decide_eq_true HP.out).symm, HB, HO⟩ | exact ⟨false, rfl, Lib.hid (decide_eq_false HP.out).symm, HB, HO⟩
      case rest =>
        obtain ⟨tb, rfl, HTb, HB2, HO2⟩ := hcut
        clear HB HO c0 c1 c2 c3 c4 c5 c6 c7 c8 cf cl
        have HB := HB2
        have HO := HO2
        clear HB2 HO2
        obtain ⟨c0, c1, c2, c3, c4, c5, c6, c7, c8, cf, cl⟩ := cm_cells HB.out
        cases tb with
        | true =>
          have hP : bad2 c := of_decide_eq_true HTb.out.symm
          have HR : Hid (amounts c k = 95) := Lib.hid (by rw [amounts_eq, if_neg HN21.out, if_pos hP])
          clear hP
          go_wp2
          go_ret
          exact ⟨by rw [HR.out]; rfl, HO.out⟩
        | false =>
          have n29 : ¬ (bad2 c) := of_decide_eq_false HTb.out.symm
          have HN29 := Lib.hid n29
          clear n29 HTb
          have hq2 : c.qty ≤ 4294967295 := by have := HN29.out; unfold bad2 at this; omega
          go_upto_region 5 with fail
          go_cut [55] from 5 to 58 (fun v55 wc => ∃ tb, v55 = .bool tb ∧ Hid (tb = decide (bad3 c k)) ∧ Hid (wc.heap[w.heap.size]? = some (.cells (cmRow c) tCm (0, 0))) ∧ Hid (Only Nil w wc))
          case first =>
            have hway := way3 c k
            have hwr : c.peak ≤ c.qty → IntKind.u64.wrap (256 * c.peak) = 256 * c.peak := fun q => by rw [IntKind.wrap_u64]; omega
            by_cases hpq : c.peak ≤ c.qty
            rotate_left
            · have k1 : decide (c.qty < c.peak) = true := by simp; omega
              have HP : Hid (bad3 c k) := Lib.hid (.inl (by omega))
              clear hway hwr hpq
              go_wp2
              go_meet
              case rel => exact ⟨true, rfl, Lib.hid (decide_eq_true HP.out).symm, HB, HO⟩
            have hwr2 := hwr hpq
            clear hwr
            rcases hway with ⟨k1, kz⟩ | ⟨k1, k2, kz⟩ | ⟨k1, k2, k3, k4, kz⟩ | ⟨k1, k2, k3, k4, kz⟩ | ⟨k1, k2, k3, k4, kz⟩ | ⟨k1, k2, k3, k4, k5, kz⟩ | ⟨k1, k2, k3, k4, k5, kz⟩
            all_goals
              have HP := Lib.hid kz
              clear kz
              go_wp2
              go_meet
              case rel => first | exact ⟨true, rfl, Lib.hid (decide_eq_true HP.out).symm, HB, HO⟩ | exact ⟨false, rfl, Lib.hid (decide_eq_false HP.out).symm, HB, HO⟩
          case rest =>
            obtain ⟨tb, rfl, HTb, HB2, HO2⟩ := hcut
            clear HB HO c0 c1 c2 c3 c4 c5 c6 c7 c8 cf cl
            have HB := HB2
            have HO := HO2
            clear HB2 HO2
            obtain ⟨c0, c1, c2, c3, c4, c5, c6, c7, c8, cf, cl⟩ := cm_cells HB.out
            cases tb with
            | true =>
              have hP : bad3 c k := of_decide_eq_true HTb.out.symm
              have HR : Hid (amounts c k = 96) := Lib.hid (by rw [amounts_eq, if_neg HN21.out, if_neg HN29.out, if_pos hP])
              clear hP
              go_wp2
              go_ret
              exact ⟨by rw [HR.out]; rfl, HO.out⟩
            | false =>
              have n55 : ¬ (bad3 c k) := of_decide_eq_false HTb.out.symm
              have HN55 := Lib.hid n55
              clear n55 HTb
              cases hid : (c.id == 0) with
              | true =>
                have HR : Hid (amounts c k = 97) := Lib.hid (by rw [amounts_eq, if_neg HN21.out, if_neg HN29.out, if_neg HN55.out, if_pos (by simpa using hid)])
                go_wp2
                go_ret
                exact ⟨by rw [HR.out]; rfl, HO.out⟩
              | false =>
                have HR : Hid (amounts c k = 0) := Lib.hid (by rw [amounts_eq, if_neg HN21.out, if_neg HN29.out, if_neg HN55.out, if_neg (by simpa using hid)])
                go_wp2
                go_ret
                exact ⟨by rw [HR.out]; rfl, HO.out⟩
set_option maxHeartbeats 1600000 in
set_option maxRecDepth 100000 in
theorem checkR_any (c : Cm) (w : World) (hw : c.wf) :
    Calls Try.prog 42 #[.agg (cmRow c)] w fun e w' => e = .returned (.int .i64 (checkR c)) ∧ Only Nil w w' := by
  have HB := Lib.hid (blk_new w (.cells (cmRow c) tCm))
  have HO := Lib.hid ((Only.refl Nil w).alloc (.cells (cmRow c) tCm))
  have HA := Lib.hid (fun k W => amountsR_any c k W hw)
  have HC : Hid (checkR c = if c.kind = 2 then 0 else if c.kind = 3 then amounts c 1 else if c.kind = 1 then (if c.side ≠ 1 ∧ c.side ≠ 2 then 92 else if c.typ < 1 ∨ 5 < c.typ then 93 else amounts c c.typ) else 90) := Lib.hid rfl
  clear hw
  go_enter Try.func42, Try.ntmps42
  go_upto_region 1 with fail
  generalize hW : World.alloc w _ = W0
  have hW' : w.alloc (.cells (cmRow c) tCm) = W0 := hW
  rw [hW'] at HB HO
  clear hW hW'
  obtain ⟨c0, c1, c2, c3, c4, c5, c6, c7, c8, cf, cl⟩ := cm_cells HB.out
  by_cases h2 : c.kind = 2
  · have e2 : (c.kind == 2) = true := by simp [h2]
    have HR : Hid (checkR c = 0) := Lib.hid (by rw [HC.out, if_pos h2])
    clear h2
    go_wp2
    go_ret
    exact ⟨by rw [HR.out]; rfl, HO.out⟩
  · have e2 : (c.kind == 2) = false := by simp [h2]
    by_cases h3 : c.kind = 3
    · have e3 : (c.kind == 3) = true := by simp [h3]
      have HR : Hid (checkR c = amounts c 1) := Lib.hid (by rw [HC.out, if_neg h2, if_pos h3])
      clear h2 h3
      go_wp2_with fail
      refine (HA.out _ _).mono ?_
      rintro e w1 ⟨rfl, ho⟩
      go_wp2
      go_ret
      exact ⟨by rw [HR.out]; rfl, HO.out.trans ho (fun _ _ q => q)⟩
    · have e3 : (c.kind == 3) = false := by simp [h3]
      by_cases h1 : c.kind = 1
      · have e1 : (c.kind == 1) = true := by simp [h1]
        by_cases hs : c.side ≠ 1 ∧ c.side ≠ 2
        · have HR : Hid (checkR c = 92) := Lib.hid (by rw [HC.out, if_neg h2, if_neg h3, if_pos h1, if_pos hs])
          have s1 : (c.side != 1) = true := by simp [hs.1]
          have s2 : (c.side != 2) = true := by simp [hs.2]
          clear h1 h2 h3 hs
          go_wp2
          go_ret
          exact ⟨by rw [HR.out]; rfl, HO.out⟩
        · have hsw : (c.side != 1) = false ∨ ((c.side != 1) = true ∧ (c.side != 2) = false) := by
            by_cases q1 : c.side = 1
            · exact .inl (by simp [q1])
            · by_cases q2 : c.side = 2
              · exact .inr ⟨by simp [q1], by simp [q2]⟩
              · exact absurd ⟨q1, q2⟩ hs
          have htw : (decide (c.typ < 1) = true ∧ (c.typ < 1 ∨ 5 < c.typ)) ∨ (decide (c.typ < 1) = false ∧ decide (5 < c.typ) = true ∧ (c.typ < 1 ∨ 5 < c.typ)) ∨ (decide (c.typ < 1) = false ∧ decide (5 < c.typ) = false ∧ ¬ (c.typ < 1 ∨ 5 < c.typ)) := by
            by_cases q1 : c.typ < 1 <;> by_cases q2 : 5 < c.typ <;> simp [q1, q2]
          have HR0 : Hid (checkR c = if c.typ < 1 ∨ 5 < c.typ then 93 else amounts c c.typ) := Lib.hid (by rw [HC.out, if_neg h2, if_neg h3, if_pos h1, if_neg hs])
          clear h1 h2 h3 hs
          rcases htw with ⟨k1, kz⟩ | ⟨k1, k2, kz⟩ | ⟨k1, k2, kz⟩
          · have HR : Hid (checkR c = 93) := Lib.hid (by rw [HR0.out, if_pos kz])
            clear kz
            rcases hsw with s1 | ⟨s1, s2⟩
            all_goals
              go_wp2
              go_ret
              exact ⟨by rw [HR.out]; rfl, HO.out⟩
          · have HR : Hid (checkR c = 93) := Lib.hid (by rw [HR0.out, if_pos kz])
            clear kz
            rcases hsw with s1 | ⟨s1, s2⟩
            all_goals
              go_wp2
              go_ret
              exact ⟨by rw [HR.out]; rfl, HO.out⟩
          · have HR : Hid (checkR c = amounts c c.typ) := Lib.hid (by rw [HR0.out, if_neg kz])
            clear kz
            rcases hsw with s1 | ⟨s1, s2⟩
            all_goals
              go_wp2_with fail
              refine (HA.out _ _).mono ?_
              rintro e w1 ⟨rfl, ho⟩
              go_wp2
              go_ret
              exact ⟨by rw [HR.out]; rfl, HO.out.trans ho (fun _ _ q => q)⟩
      · have e1 : (c.kind == 1) = false := by simp [h1]
        have HR : Hid (checkR c = 90) := Lib.hid (by rw [HC.out, if_neg h2, if_neg h3, if_neg h1])
        clear h1 h2 h3
        go_wp2
        go_ret
        exact ⟨by rw [HR.out]; rfl, HO.out⟩
end Ck
end Go.Proofs.Ytcnkbhgdcfckoaa
namespace Go.Proofs.Ytcnkbhgdcfckoaa
open Go.RowKit
namespace Ck
def findRV : Option (Rs × Int) → Value
  | none => .tuple #[.agg zR.row, .int .i64 0, .bool false]
  | some (r, s) => .tuple #[.agg r.row, .int .i64 s, .bool true]
theorem findQ_at {l : List Rs} {id : Int} {k : Nat} {r : Rs} (hn : ∀ (j : Nat) (s : Rs), j < k → l[j]? = some s → s.id ≠ id) (hk : l[k]? = some r) (hr : r.id = id) : l.find? (fun r => r.id == id) = some r := by
  obtain ⟨r', h1, h2⟩ := find_some (findAt_some hn hk hr)
  rw [hk] at h1
  injection h1 with h1
  rw [h2, h1]
theorem findQ_none {l : List Rs} {id : Int} (hn : ∀ (j : Nat) (s : Rs), l[j]? = some s → s.id ≠ id) : l.find? (fun r => r.id == id) = none := find_none (findAt_none hn)
theorem results_three {fn : Func} {p q u : Tmp} {ty1 : TypeId} (h : fn.results = #[.cell p ty1, .tmp q, .tmp u]) (tmps : Array Value) (w : World) (g1 : Nat) (t1 : TypeId) (cs1 : Array Value) (d1 : TypeDesc)
    (hp : tmps.getD p undef = .pointer (some ⟨g1, 0, none⟩)) (x y : Value) (hq : tmps.getD q undef = x) (hu : tmps.getD u undef = y) (hg1 : w.heap[g1]? = some (.cells cs1 t1 (0, 0)))
    (hu1 : Try.prog.underlying ty1 = some d1) (hd1 : d1.isRow = true) (hi1 : (Try.prog.info? ty1).map (·.size) = some cs1.size) :
    (results fn tmps).run Try.prog w = .ok (.tuple #[.agg cs1, x, y]) w := by
  have l1 := run_loadVar_row w g1 t1 ty1 cs1 (0, 0) d1 hg1 hu1 (by cases d1 <;> first | rfl | simp [TypeDesc.isRow] at hd1) hi1
  have hp' : tmps[p]?.getD undef = .pointer (some ⟨g1, 0, none⟩) := by simpa using hp
  have hq' : tmps[q]?.getD undef = x := by simpa using hq
  have hu' : tmps[u]?.getD undef = y := by simpa using hu
  simp [results, h, hp', hq', hu', asAddr, l1, Sem.run_bind, Result.andThen]
/-- On the way through Find: the book's box, the result's variable. -/
structure FdW (w : World) (b : Bk) (v1 v2 : Value) (W : World) : Prop where
  b : W.heap[w.heap.size]? = some (.cells (bkRow b v1 v2) tBk (0, 0))
  r : W.heap[w.heap.size + 1]? = some (.cells zR.row tR (0, 0))
  o : Only Nil w W
theorem FdW.nil {w W W1 : World} {b : Bk} {v1 v2 : Value} (h : FdW w b v1 v2 W) (ho : Only Nil W W1) : FdW w b v1 v2 W1 := ⟨ho.blk h.b (fun q => q), ho.blk h.r (fun q => q), h.o.trans ho (fun _ _ q => q)⟩
set_option maxHeartbeats 3200000 in
set_option maxRecDepth 100000 in
theorem findR_any (b : Bk) (v1 v2 : Value) (id : Int) (w : World) (h1 : LR w v1 b.buys) (h2 : LR w v2 b.sells) :
    Calls Try.prog 26 #[.agg (bkRow b v1 v2), .int .u64 id] w fun e w' => e = .returned (findRV (findR b id)) ∧ Only Nil w w' := by
  have HS1 := Lib.hid (fun W => side_any b v1 v2 1 W h1.isSl h2.isSl)
  have HS2 := Lib.hid (fun W => side_any b v1 v2 2 W h1.isSl h2.isSl)
  obtain ⟨A1, c1, rfl, q1, q2⟩ := h1.sl
  obtain ⟨A2, c2, rfl, q3, q4⟩ := h2.sl
  have hm1 : b.buys.length ≤ 9223372036854775807 := by omega
  have hm2 : b.sells.length ≤ 9223372036854775807 := by omega
  have H1 := Lib.hid h1
  have H2 := Lib.hid h2
  have HV : Hid (FdW w b (.slice A1 b.buys.length c1) (.slice A2 b.sells.length c2) ((w.alloc (.cells (bkRow b (.slice A1 b.buys.length c1) (.slice A2 b.sells.length c2)) tBk)).alloc (.cells zR.row tR))) :=
    Lib.hid ⟨blk_alloc (blk_new _ _) _, blk_new' _ _ _ (by simp), ((Only.refl _ _).alloc _).alloc _⟩
  have HF : Hid (findR b id = (match b.buys.find? (fun r => r.id == id) with | some r => some (r, 1) | none => (match b.sells.find? (fun r => r.id == id) with | some r => some (r, 2) | none => none))) := Lib.hid rfl
  clear h1 h2 q1 q2 q3 q4
  go_enter Try.func26, Try.ntmps26
  go_upto_region 1 with fail
  generalize hW : World.alloc (World.alloc w _) _ = W0
  have hW' : (w.alloc (.cells (bkRow b (.slice A1 b.buys.length c1) (.slice A2 b.sells.length c2)) tBk)).alloc (.cells zR.row tR) = W0 := hW
  rw [hW'] at HV
  clear hW hW'
  obtain ⟨b0, b1, b2, b3, b4, b5, bf, bl⟩ := blk_cellsof HV.out.b
  go_wp2_with fail
  refine wp_loop_rounds 3 ?_
  rw [rounds_succ]
  go_wp2_with fail
  refine (HS1.out _).mono ?_
  rintro e w1 ⟨rfl, ho⟩
  have HV1 := Lib.hid (HV.out.nil ho)
  clear ho HV b0 b1 b2 b3 b4 b5 bf bl
  simp (config := { failIfUnchanged := false }) only [if_true, if_false, eq_self_iff_true, reduceIte, Int.reduceEq]
  go_wp2
  go_loopg [9] (b.buys.length) (fun m v9 wr => ∃ k : Nat, k ≤ b.buys.length ∧ m = b.buys.length - k ∧ v9 = .int .i64 k ∧ Hid (∀ (j : Nat) (s : Rs), j < k → b.buys[j]? = some s → s.id ≠ id) ∧ Hid (FdW w b (.slice A1 b.buys.length c1) (.slice A2 b.sells.length c2) wr))
  case atStart => exact ⟨0, by omega, by omega, rfl, Lib.hid (fun j s hj => by omega), HV1⟩
  case round =>
    obtain ⟨k, hk, hm, rfl, HN, HVk⟩ := hrel
    have HMs := Lib.hid hm
    clear hm HV1
    by_cases hlt : k < b.buys.length
    · have hkI : (k : Int) < (b.buys.length : Int) := by omega
      have hx : b.buys[k]? = some b.buys[k] := List.getElem?_eq_getElem hlt
      obtain ⟨g, off, rfl, _, _, ha⟩ := (H1.out.nil HVk.out.o).get hx
      have a0 := ha.c0
      have a1 := ha.c1
      have a2 := ha.c2
      have a3 := ha.c3
      have a4 := ha.c4
      have a5 := ha.c5
      have a6 := ha.c6
      have lg := ha.lt
      have HX := Lib.hid hx
      generalize b.buys[k] = x at *
      clear ha hx
      by_cases he : x.id = id
      · have HR : Hid (findR b id = some (x, 1)) := Lib.hid (by rw [HF.out, findQ_at HN.out HX.out he])
        have hb : (x.id == id) = true := by simp [he]
        have HId := Lib.hid he
        clear he
        go_wp2_with (refine wpList_store_row rfl tR (.tmp 4) (.tmp 33) rfl _ rfl x.row zR.row rfl _ HVk.out.r infoRs rfl (one_row _) ?_)
        rw [HR.out]
        refine bodyPost_ret (results_three rfl _ _ (w.heap.size + 1) tR x.row _ rfl _ _ rfl rfl (blk_setRow HVk.out.r x.row) Try.underlying50 rfl infoRs) rfl ⟨rfl, HVk.out.o.setRow (.inr (by omega)) _⟩
      · have hb : (x.id == id) = false := by simp [he]
        have HN1 : Hid (∀ (j : Nat) (s : Rs), j < k + 1 → b.buys[j]? = some s → s.id ≠ id) := Lib.hid (fun j s hj hs => by
          by_cases hjk : j = k
          · subst hjk; rw [HX.out] at hs; injection hs with hs; subst hs; exact he
          · exact HN.out j s (by omega) hs)
        clear he HN
        go_wp2
        go_roundg (b.buys.length - (k + 1))
        case measure => have := HMs.out; omega
        case rel => exact ⟨k + 1, by omega, rfl, by go_num, HN1, HVk⟩
    · have he : k = b.buys.length := by omega
      have HN1 : Hid (b.buys.find? (fun r => r.id == id) = none) := Lib.hid (findQ_none (fun j s hs => HN.out j s (by have := (List.getElem?_eq_some_iff.1 hs).1; omega) hs))
      have hkI : ¬ ((k : Int) < (b.buys.length : Int)) := by omega
      have HV := HVk
      clear he HN HVk HMs
      obtain ⟨b0, b1, b2, b3, b4, b5, bf, bl⟩ := blk_cellsof HV.out.b
      go_wp2_with fail
      rw [rounds_succ]
      go_wp2_with fail
      refine (HS2.out _).mono ?_
      rintro e w2 ⟨rfl, ho⟩
      have HV2 := Lib.hid (HV.out.nil ho)
      clear ho HV b0 b1 b2 b3 b4 b5 bf bl
      simp (config := { failIfUnchanged := false }) only [if_true, if_false, eq_self_iff_true, reduceIte, Int.reduceEq]
      go_wp2
      go_loopg [9] (b.sells.length) (fun m v9 wr => ∃ k : Nat, k ≤ b.sells.length ∧ m = b.sells.length - k ∧ v9 = .int .i64 k ∧ Hid (∀ (j : Nat) (s : Rs), j < k → b.sells[j]? = some s → s.id ≠ id) ∧ Hid (FdW w b (.slice A1 b.buys.length c1) (.slice A2 b.sells.length c2) wr))
      case atStart => exact ⟨0, by omega, by omega, rfl, Lib.hid (fun j s hj => by omega), HV2⟩
      case round =>
        obtain ⟨k, hk, hm, rfl, HN, HVk⟩ := hrel
        have HMs := Lib.hid hm
        clear hm HV2
        by_cases hlt : k < b.sells.length
        · have hkI : (k : Int) < (b.sells.length : Int) := by omega
          have hx : b.sells[k]? = some b.sells[k] := List.getElem?_eq_getElem hlt
          obtain ⟨g, off, rfl, _, _, ha⟩ := (H2.out.nil HVk.out.o).get hx
          have a0 := ha.c0
          have a1 := ha.c1
          have a2 := ha.c2
          have a3 := ha.c3
          have a4 := ha.c4
          have a5 := ha.c5
          have a6 := ha.c6
          have lg := ha.lt
          have HX := Lib.hid hx
          generalize b.sells[k] = x at *
          clear ha hx
          by_cases he : x.id = id
          · have HR : Hid (findR b id = some (x, 2)) := Lib.hid (by rw [HF.out, HN1.out, findQ_at HN.out HX.out he])
            have hb : (x.id == id) = true := by simp [he]
            have HId := Lib.hid he
            clear he
            go_wp2_with (refine wpList_store_row rfl tR (.tmp 4) (.tmp 33) rfl _ rfl x.row zR.row rfl _ HVk.out.r infoRs rfl (one_row _) ?_)
            rw [HR.out]
            refine bodyPost_ret (results_three rfl _ _ (w.heap.size + 1) tR x.row _ rfl _ _ rfl rfl (blk_setRow HVk.out.r x.row) Try.underlying50 rfl infoRs) rfl ⟨rfl, HVk.out.o.setRow (.inr (by omega)) _⟩
          · have hb : (x.id == id) = false := by simp [he]
            have HN1 : Hid (∀ (j : Nat) (s : Rs), j < k + 1 → b.sells[j]? = some s → s.id ≠ id) := Lib.hid (fun j s hj hs => by
              by_cases hjk : j = k
              · subst hjk; rw [HX.out] at hs; injection hs with hs; subst hs; exact he
              · exact HN.out j s (by omega) hs)
            clear he HN
            go_wp2
            go_roundg (b.sells.length - (k + 1))
            case measure => have := HMs.out; omega
            case rel => exact ⟨k + 1, by omega, rfl, by go_num, HN1, HVk⟩
        · have he : k = b.sells.length := by omega
          have HN2 : Hid (b.sells.find? (fun r => r.id == id) = none) := Lib.hid (findQ_none (fun j s hs => HN.out j s (by have := (List.getElem?_eq_some_iff.1 hs).1; omega) hs))
          have hkI : ¬ ((k : Int) < (b.sells.length : Int)) := by omega
          have HV := HVk
          clear he HN HVk HMs
          obtain ⟨b0, b1, b2, b3, b4, b5, bf, bl⟩ := blk_cellsof HV.out.b
          have HR : Hid (findR b id = none) := Lib.hid (by rw [HF.out, HN1.out, HN2.out])
          go_wp2_with fail
          rw [rounds_succ]
          go_wp2_with (refine wpList_store_row rfl tR (.tmp 4) (.tmp 35) rfl _ rfl zR.row zR.row rfl _ HV.out.r infoRs rfl (one_row _) ?_)
          rw [HR.out]
          refine bodyPost_ret (results_three rfl _ _ (w.heap.size + 1) tR zR.row _ rfl _ _ rfl rfl (blk_setRow HV.out.r zR.row) Try.underlying50 rfl infoRs) rfl ⟨rfl, HV.out.o.setRow (.inr (by omega)) _⟩
end Ck
end Go.Proofs.Ytcnkbhgdcfckoaa
namespace Go.Proofs.Ytcnkbhgdcfckoaa
open Go.RowKit
namespace Ck
theorem taken_ok : ∀ (l : List Ev) {x y : Pk}, x.ok → (∀ e ∈ l, e.wf) → takenP x l = some y → y.ok
  | [], x, y, hx, _, h => by
    injection h with h
    exact h ▸ hx
  | e :: l, x, y, hx, hw, h => by
    rw [takenP_cons] at h
    split at h
    · exact taken_ok l (add_ok hx (hw e (by simp))) (fun q hq => hw q (by simp [hq])) h
    · cases h
theorem refusing_wf {b : Bk} {e : Ev} (hw : e.wf) : (refusingR b e).wf := by
  have h1 := hw.id
  unfold refusingR
  simp only
  repeat' split
  all_goals exact ⟨h1, ⟨by simp, by simp⟩, ⟨by simp, by simp⟩⟩
theorem replayed_wf {b : Bk} {e nx : Ev} (hw : e.wf) (hn : nx.wf) : (replayedR b e nx).1.wf := by
  unfold replayedR
  split
  · exact ⟨hw.id, hw.qty, hw.peak⟩
  · split
    · split
      · exact ⟨⟨by simp, by simp⟩, ⟨by simp, by simp⟩, ⟨by simp, by simp⟩⟩
      · exact ⟨hn.id, hn.qty, hn.peak⟩
    · split
      · exact refusing_wf hw
      · exact ⟨hw.id, hw.qty, hw.peak⟩
theorem zE_wf : zE.wf := by
  refine ⟨?_, ?_, ?_, ?_, ?_, ?_, ?_, ?_, ?_, ?_, ?_, ?_, ?_⟩ <;> exact ⟨by decide, by decide⟩
theorem head_wf {l : List Ev} (h : ∀ e ∈ l, e.wf) : (l.headD zE).wf := by
  cases l with
  | nil => exact zE_wf
  | cons a l => exact h a (by simp)
theorem ok_okB {b : Bk} (h : b.ok) (hv : ∀ r ∈ b.buys ++ b.sells, 1 ≤ r.vis) : OkB b := by
  have key : ∀ r, r ∈ b.buys ++ b.sells → OkR r := fun r hr => by
    have hok : r.ok mx := by
      rcases List.mem_append.1 hr with g | g
      · exact h.buys r g
      · exact h.sells r g
    have h1 := hok.vis
    have h2 := hok.hid
    have h3 := hv r hr
    have h4 := hok.peak
    have h5 := hok.sum
    exact ⟨h3, by omega, by omega, by omega, fun q => by first | exact hok.hpos q | omega⟩
  exact ⟨fun r hr => key r (by simp [hr]), fun r hr => key r (by simp [hr])⟩
end Ck
end Go.Proofs.Ytcnkbhgdcfckoaa
