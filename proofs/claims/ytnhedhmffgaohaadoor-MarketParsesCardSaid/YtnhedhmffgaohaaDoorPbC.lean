/- The law's comparisons, upon what is alike. -/
import Derived.Test.YtnhedhmffgaohaaDoorPbB
namespace Go.Proofs.YtnhedhmffgaohaaDoor
open Go.RowKit
namespace Pa
set_option maxHeartbeats 800000 in
set_option maxRecDepth 100000 in
theorem texts_same (l : List ByteArray) (v1 v2 : Value) (b1 b2 : Nat) (w : World) (h1 : w.ownsRow b1 tStr 1 v1 l.length (l.map Value.string)) (h2 : w.ownsRow b2 tStr 1 v2 l.length (l.map Value.string)) :
    Calls Tryd.prog 12 #[v1, v2] w fun e w' => e = .returned (.bool true) ∧ ∃ n, w' = w.drewN n := by
  obtain ⟨A1, c1, rfl, _⟩ := own_slice h1
  obtain ⟨A2, c2, rfl, _⟩ := own_slice h2
  have H1 := Lib.hid h1
  have H2 := Lib.hid h2
  have hbig : l.length ≤ 9223372036854775807 := by
    by_cases h0 : l.length = 0
    · omega
    · obtain ⟨g, c, _, _, hc, hm⟩ := own_row h1 (by omega)
      omega
  clear h1 h2
  go_enter Tryd.func12, Tryd.ntmps12
  go_wp2
  go_loopg [5] (l.length) (fun m v5 wr => ∃ k : Nat, k ≤ l.length ∧ m = l.length - k ∧ v5 = .int .i64 k ∧ ∃ n, wr = w.drewN n)
  case atStart => exact ⟨0, by omega, by omega, rfl, 0, rfl⟩
  case round =>
    obtain ⟨k, hk, hm, rfl, n, rfl⟩ := hrel
    by_cases hlt : k < l.length
    · have hkI : (k : Int) < (l.length : Int) := by omega
      have hx : l[k]? = some l[k] := List.getElem?_eq_getElem hlt
      obtain ⟨g1, c1', e1, hg1, _, _⟩ := own_row H1.out (by omega)
      injection e1 with e1 _ e1'
      subst e1
      subst e1'
      obtain ⟨g2, c2', e2, hg2, _, _⟩ := own_row H2.out (by omega)
      injection e2 with e2 _ e2'
      subst e2
      subst e2'
      have a1 := str_at H1.out hx
      have a2 := str_at H2.out hx
      generalize l[k] = x at *
      clear hx
      go_wp2
      go_quiet (fail)
      go_wp2
      go_roundg (l.length - (k + 1))
      case measure => omega
      case rel => exact ⟨k + 1, by omega, rfl, by go_num, _, rfl⟩
    · have he : k = l.length := by omega
      subst he
      go_wp2
      go_ret
      exact ⟨rfl, n, rfl⟩
theorem say_at {w : World} {g n c base : Nat} {ps : List (Sy × Value)} (h : w.ownsRow base tSy 3 (.slice (some ⟨g, 0, none⟩) n c) n (ps.flatMap sycells)) {i : Nat} {p : Sy × Value} (hx : ps[i]? = some p) :
    w.cell? ⟨g, i * 3, none⟩ = some (.int .i64 (p.1.n : Int)) ∧ w.cell? ⟨g, i * 3 + 1, none⟩ = some (.string p.1.word) ∧ w.cell? ⟨g, i * 3 + 2, none⟩ = some p.2 :=
  ⟨own_cell h (by have := lay_get (enc := sycells) (m := 3) (fun a _ => sylen a) hx (k := 0) (by omega); simpa [sycells] using this),
   own_cell h (by have := lay_get (enc := sycells) (m := 3) (fun a _ => sylen a) hx (k := 1) (by omega); simpa [sycells] using this),
   own_cell h (by have := lay_get (enc := sycells) (m := 3) (fun a _ => sylen a) hx (k := 2) (by omega); simpa [sycells] using this)⟩
set_option maxHeartbeats 1600000 in
set_option maxRecDepth 100000 in
theorem sayings_same (ps qs : List (Sy × Value)) (v1 v2 : Value) (b1 b2 : Nat) (w : World) (h1 : Says w b1 v1 ps) (h2 : Says w b2 v2 qs) (he : ps.map (·.1) = qs.map (·.1)) :
    Calls Tryd.prog 6 #[v1, v2] w fun e w' => e = .returned (.bool true) ∧ ∃ n, w' = w.drewN n := by
  have hlen : qs.length = ps.length := by have := congrArg List.length he; simpa using this.symm
  have hr2 := h2.row
  rw [hlen] at hr2
  obtain ⟨A1, c1, rfl, _⟩ := own_slice h1.row
  obtain ⟨A2, c2, rfl, _⟩ := own_slice hr2
  have H1 := Lib.hid h1
  have H2 := Lib.hid h2
  have HE := Lib.hid he
  have hbig : ps.length ≤ 9223372036854775807 := by
    by_cases h0 : ps.length = 0
    · omega
    · obtain ⟨g, c, _, _, hc, hm⟩ := own_row h1.row (by omega)
      omega
  clear h1 h2 hr2 he
  go_enter Tryd.func6, Tryd.ntmps6
  go_wp2
  go_loopg [5] (ps.length) (fun m v5 wr => ∃ k : Nat, k ≤ ps.length ∧ m = ps.length - k ∧ v5 = .int .i64 k ∧ Hid (∃ n, wr = w.drewN n))
  case atStart => exact ⟨0, by omega, by omega, rfl, Lib.hid ⟨0, rfl⟩⟩
  case round =>
    obtain ⟨k, hk, hm, rfl, HN⟩ := hrel
    have HSw1 : Hid (Says wr b1 (.slice A1 ps.length c1) ps) := Lib.hid (by obtain ⟨n, rfl⟩ := HN.out; exact ⟨H1.out.row, H1.out.args, H1.out.apart⟩)
    have HSw2 : Hid (Says wr b2 (.slice A2 ps.length c2) qs) := Lib.hid (by obtain ⟨n, rfl⟩ := HN.out; exact ⟨H2.out.row, H2.out.args, H2.out.apart⟩)
    have HRw2 : Hid (wr.ownsRow b2 tSy 3 (.slice A2 ps.length c2) ps.length (qs.flatMap sycells)) := Lib.hid (by have := HSw2.out.row; rw [hlen] at this; exact this)
    by_cases hlt : k < ps.length
    · have hkI : (k : Int) < (ps.length : Int) := by omega
      have hx : ps[k]? = some ps[k] := List.getElem?_eq_getElem hlt
      have hy : qs[k]? = some (qs[k]'(by omega)) := List.getElem?_eq_getElem _
      obtain ⟨g1, c1', e1, hg1, _, _⟩ := own_row HSw1.out.row (by omega)
      injection e1 with e1 _ e1'
      subst e1
      subst e1'
      obtain ⟨g2, c2', e2, hg2, _, _⟩ := own_row HRw2.out (by omega)
      injection e2 with e2 _ e2'
      subst e2
      subst e2'
      obtain ⟨a0, a1, a2⟩ := say_at HSw1.out.row hx
      obtain ⟨d0, d1, d2⟩ := say_at HRw2.out hy
      have hA := HSw1.out.args ps[k] (List.mem_of_getElem? hx)
      have hD := HSw2.out.args (qs[k]'(by omega)) (List.mem_of_getElem? hy)
      have hxy : (qs[k]'(by omega)).1 = ps[k].1 := by
        have h := congrArg (·[k]?) HE.out
        simp only [List.getElem?_map, hx, hy, Option.map_some, Option.some.injEq] at h
        exact h.symm
      generalize (qs[k]'(by omega)) = y at *
      generalize ps[k] = x at *
      obtain ⟨sx, vx⟩ := x
      obtain ⟨sy, vy⟩ := y
      simp only at *
      subst hxy
      obtain ⟨Ax, cx, rfl, _⟩ := own_slice hA
      obtain ⟨Ay, cy, rfl, _⟩ := own_slice hD
      have HT := Lib.hid (fun j => texts_same sy.args _ _ b1 b2 (wr.drewN j) hA hD)
      have hw : (sy.word.toList == sy.word.toList) = true := beq_self_eq_true _
      clear hx hy hA hD
      go_wp2
      go_quiet (refine Calls.quiet_of (HT.out _))
      go_wp2
      go_roundg (ps.length - (k + 1))
      case measure => omega
      case rel => exact ⟨k + 1, by omega, rfl, by go_num, Lib.hid (by obtain ⟨n, rfl⟩ := HN.out; exact ⟨_, World.drewN_drewN _ _ _⟩)⟩
    · have he : k = ps.length := by omega
      subst he
      go_wp2
      go_ret
      exact ⟨rfl, HN.out⟩
end Pa
end Go.Proofs.YtnhedhmffgaohaaDoor
