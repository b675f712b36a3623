/- letters (the program's), capitals (the document's): a walk each. -/
import Derived.Test.YtnhedhmffgaohaaDoorPaM
import Derived.Test.YtnhedhmffgaohaaDoorPa
import Derived.Deep.LoopGhost
namespace Go.Proofs.YtnhedhmffgaohaaDoor
open Go.RowKit
namespace Pa
theorem byte_get {s : ByteArray} {k : Nat} (h : k < s.size) : s.data.toList[k]? = some s[k] := by
  rw [Array.getElem?_toList, Array.getElem?_eq_getElem (show k < s.data.size from h)]
  rfl
theorem caps_no {s : ByteArray} {k most : Nat} (h : k < s.size) (hb : ¬ (65 ≤ s[k].toNat ∧ s[k].toNat ≤ 90)) : caps s.data.toList most = false := by
  unfold caps
  rw [Bool.and_eq_false_iff]
  refine .inl (List.all_eq_false.2 ⟨s[k], List.mem_of_getElem? (byte_get h), by simpa using hb⟩)
theorem caps_yes {s : ByteArray} {most : Nat} (h : ∀ k (h : k < s.size), 65 ≤ s[k].toNat ∧ s[k].toNat ≤ 90) : caps s.data.toList most = decide (1 ≤ s.size ∧ s.size ≤ most) := by
  unfold caps
  rw [show s.data.toList.all (fun b => decide (65 ≤ b.toNat ∧ b.toNat ≤ 90)) = true from List.all_eq_true.2 (fun b hb => by
    obtain ⟨k, hk, rfl⟩ := List.getElem_of_mem hb
    have hk' : k < s.size := by simpa using hk
    have := h k hk'
    exact decide_eq_true this)]
  rw [Bool.true_and]
  simp only [Array.length_toList]
  rfl
set_option maxHeartbeats 800000 in
set_option maxRecDepth 100000 in
theorem letters_any (s : ByteArray) (most : Nat) (w : World) (hs : s.size ≤ 9223372036854775807) :
    Calls Tryd.prog 21 #[.string s, .int .i64 (most : Int)] w fun e w' => e = .returned (.bool (caps s.data.toList most)) ∧ w = w' := by
  go_enter Tryd.func21, Tryd.ntmps21
  go_wp2
  go_loopg [5, 8] (s.size) (fun m v5 v8 wr => ∃ k : Nat, k ≤ s.size ∧ m = s.size - k ∧ v8 = .int .i64 k ∧ Hid (∀ j (h : j < s.size), j < k → 65 ≤ s[j].toNat ∧ s[j].toNat ≤ 90) ∧ w = wr)
  case atStart => exact ⟨0, by omega, by omega, rfl, Lib.hid (fun j h hj => by omega), rfl⟩
  case round =>
    obtain ⟨k, hk, hm, rfl, HA, rfl⟩ := hrel
    by_cases hlt : k < s.size
    · have hkI : (k : Int) < (s.size : Int) := by omega
      by_cases hb : 65 ≤ s[k].toNat ∧ s[k].toNat ≤ 90
      · have HA1 : Hid (∀ j (h : j < s.size), j < k + 1 → 65 ≤ s[j].toNat ∧ s[j].toNat ≤ 90) := Lib.hid (fun j h hj => by
          by_cases hjk : j = k
          · subst hjk; exact hb
          · exact HA.out j h (by omega))
        obtain ⟨hb1, hb2⟩ := hb
        have c1 : (65 : Int) ≤ (s[k].toNat : Int) := by omega
        have c2 : (s[k].toNat : Int) ≤ 90 := by omega
        clear hb1 hb2
        go_wp2
        go_roundg (s.size - (k + 1))
        case measure => omega
        case rel => exact ⟨k + 1, by omega, rfl, by go_num, HA1, rfl⟩
      · have HF := Lib.hid (caps_no (most := most) hlt hb)
        have hb' : (s[k].toNat : Int) < 65 ∨ 90 < (s[k].toNat : Int) := by omega
        clear hb
        rcases hb' with hb | hb
        · go_wp2
          go_ret
          exact ⟨by rw [HF.out]; rfl, rfl⟩
        · go_wp2
          go_ret
          exact ⟨by rw [HF.out]; rfl, rfl⟩
    · have he : k = s.size := by omega
      subst he
      have HY := Lib.hid (caps_yes (most := most) (fun j h => HA.out j h h))
      clear HA hlt hk
      by_cases h1 : 1 ≤ s.size
      · have HZ : Hid (caps s.data.toList most = decide (s.size ≤ most)) := Lib.hid (by rw [HY.out]; simp [h1])
        have h2 : (1 : Int) ≤ (s.size : Int) := by omega
        clear HY h1
        go_wp2
        go_ret
        exact ⟨by rw [HZ.out]; rfl, rfl⟩
      · have HZ : Hid (caps s.data.toList most = false) := Lib.hid (by rw [HY.out]; simp [h1])
        have h2 : (s.size : Int) < 1 := by omega
        clear HY h1
        go_wp2
        go_ret
        exact ⟨by rw [HZ.out]; rfl, rfl⟩
set_option maxHeartbeats 800000 in
set_option maxRecDepth 100000 in
theorem capitals_any (s : ByteArray) (most : Nat) (w : World) (hs : s.size ≤ 9223372036854775807) :
    Calls Tryd.prog 23 #[.string s, .int .i64 (most : Int)] w fun e w' => e = .returned (.bool (caps s.data.toList most)) ∧ w = w' := by
  go_enter Tryd.func23, Tryd.ntmps23
  go_wp2
  go_loopg [5] (s.size) (fun m v5 wr => ∃ k : Nat, k ≤ s.size ∧ m = s.size - k ∧ v5 = .int .i64 k ∧ Hid (∀ j (h : j < s.size), j < k → 65 ≤ s[j].toNat ∧ s[j].toNat ≤ 90) ∧ w = wr)
  case atStart => exact ⟨0, by omega, by omega, rfl, Lib.hid (fun j h hj => by omega), rfl⟩
  case round =>
    obtain ⟨k, hk, hm, rfl, HA, rfl⟩ := hrel
    by_cases hlt : k < s.size
    · have hkI : (k : Int) < (s.size : Int) := by omega
      by_cases hb : 65 ≤ s[k].toNat ∧ s[k].toNat ≤ 90
      · have HA1 : Hid (∀ j (h : j < s.size), j < k + 1 → 65 ≤ s[j].toNat ∧ s[j].toNat ≤ 90) := Lib.hid (fun j h hj => by
          by_cases hjk : j = k
          · subst hjk; exact hb
          · exact HA.out j h (by omega))
        obtain ⟨hb1, hb2⟩ := hb
        have c1 : (65 : Int) ≤ (s[k].toNat : Int) := by omega
        have c2 : (s[k].toNat : Int) ≤ 90 := by omega
        clear hb1 hb2
        go_wp2
        go_roundg (s.size - (k + 1))
        case measure => omega
        case rel => exact ⟨k + 1, by omega, rfl, by go_num, HA1, rfl⟩
      · have HF := Lib.hid (caps_no (most := most) hlt hb)
        have hb' : (s[k].toNat : Int) < 65 ∨ 90 < (s[k].toNat : Int) := by omega
        clear hb
        rcases hb' with hb | hb
        · go_wp2
          go_ret
          exact ⟨by rw [HF.out]; rfl, rfl⟩
        · go_wp2
          go_ret
          exact ⟨by rw [HF.out]; rfl, rfl⟩
    · have he : k = s.size := by omega
      subst he
      have HY := Lib.hid (caps_yes (most := most) (fun j h => HA.out j h h))
      clear HA hlt hk
      by_cases h1 : 1 ≤ s.size
      · have HZ : Hid (caps s.data.toList most = decide (s.size ≤ most)) := Lib.hid (by rw [HY.out]; simp [h1])
        have h2 : (1 : Int) ≤ (s.size : Int) := by omega
        clear HY h1
        go_wp2
        go_ret
        exact ⟨by rw [HZ.out]; rfl, rfl⟩
      · have HZ : Hid (caps s.data.toList most = false) := Lib.hid (by rw [HY.out]; simp [h1])
        have h2 : (s.size : Int) < 1 := by omega
        clear HY h1
        go_wp2
        go_ret
        exact ⟨by rw [HZ.out]; rfl, rfl⟩
/-- The library's variables, as a row finds them. -/
structure Vars (w : World) : Prop where
  ml : ∃ m, w.cell? ⟨0, 0, none⟩ = some (.int .i64 m)
  sy : ∃ tp p, w.var? Tryd.prog "strconv.ErrSyntax" = some #[.iface tp p]
  ra : ∃ tp p, w.var? Tryd.prog "strconv.ErrRange" = some #[.iface tp p]
  tab : Lib.TabIs Tryd.prog w "internal/strconv.uint64pow10" .u64 Lib.pow10Tab
theorem var_only {P : Program} {w w1 : World} {name : String} {z : Array Value} (h : w.var? P name = some z) (ho : Only Nil w w1) : w1.var? P name = some z := by
  unfold World.var? at *
  cases hg : P.globalNamed name with
  | none => simp [hg] at h
  | some g =>
    simp only [hg, Option.bind_some] at h ⊢
    have hlt : g < w.heap.size := by
      rcases Nat.lt_or_ge g w.heap.size with h' | h'
      · exact h'
      · rw [Array.getElem?_eq_none h'] at h; simp at h
    rw [ho.block g hlt (fun h => h)]
    exact h
theorem cell_lt {w : World} {p : Addr} {u : Value} (h : w.cell? p = some u) : p.block < w.heap.size := by
  rcases Nat.lt_or_ge p.block w.heap.size with h' | h'
  · exact h'
  · unfold World.cell? at h
    rw [Array.getElem?_eq_none h'] at h
    cases h
theorem Vars.only {w w1 : World} (h : Vars w) (ho : Only Nil w w1) : Vars w1 where
  ml := by
    obtain ⟨m, hm⟩ := h.ml
    exact ⟨m, by rw [ho.cell (cell_lt hm) (fun h => h)]; exact hm⟩
  sy := by
    obtain ⟨tp, p, hh⟩ := h.sy
    exact ⟨tp, p, var_only hh ho⟩
  ra := by
    obtain ⟨tp, p, hh⟩ := h.ra
    exact ⟨tp, p, var_only hh ho⟩
  tab := var_only h.tab ho
end Pa
end Go.Proofs.YtnhedhmffgaohaaDoor
