/- The words of a line: plain, and the walks of the program's and the document's. -/
import Derived.Test.YtnhedhmffgaohaaDoorPaP
import Derived.Deep.CutRange
import Derived.Deep.RegionLaw
namespace Go.Proofs.YtnhedhmffgaohaaDoor
open Go.RowKit
namespace Pa
/-- Where the word ends that i lies in. -/
def stop (s : ByteArray) (i : Nat) : Nat := if h : i < s.size then (if s[i].toNat = 32 then i else stop s (i + 1)) else i
termination_by s.size - i
theorem stop_ge (s : ByteArray) (i : Nat) : i ≤ stop s i := by
  fun_induction stop s i with
  | case1 i h h' => exact Nat.le_refl _
  | case2 i h h' ih => omega
  | case3 i h => exact Nat.le_refl _
theorem stop_le (s : ByteArray) (i : Nat) (hi : i ≤ s.size) : stop s i ≤ s.size := by
  fun_induction stop s i with
  | case1 i h h' => exact hi
  | case2 i h h' ih => exact ih (by omega)
  | case3 i h => exact hi
theorem stop_sp {s : ByteArray} {i : Nat} (h : i < s.size) (hs : s[i].toNat = 32) : stop s i = i := by rw [stop, dif_pos h, if_pos hs]
theorem stop_no {s : ByteArray} {i : Nat} (h : i < s.size) (hs : ¬ s[i].toNat = 32) : stop s i = stop s (i + 1) := by rw [stop, dif_pos h, if_neg hs]
theorem stop_end {s : ByteArray} {i : Nat} (h : ¬ i < s.size) : stop s i = i := by rw [stop, dif_neg h]
/-- The words from i on. -/
def wordsAt (s : ByteArray) (i : Nat) : List (ByteArray × Nat) := if h : i < s.size then (if s[i].toNat = 32 then wordsAt s (i + 1) else (s.extract i (stop s (i + 1)), i) :: wordsAt s (stop s (i + 1))) else []
termination_by s.size - i
decreasing_by
  · omega
  · have := stop_ge s (i + 1); omega
theorem words_sp {s : ByteArray} {i : Nat} (h : i < s.size) (hs : s[i].toNat = 32) : wordsAt s i = wordsAt s (i + 1) := by rw [wordsAt, dif_pos h, if_pos hs]
theorem words_no {s : ByteArray} {i : Nat} (h : i < s.size) (hs : ¬ s[i].toNat = 32) : wordsAt s i = (s.extract i (stop s i), i) :: wordsAt s (stop s i) := by
  rw [wordsAt, dif_pos h, if_neg hs, stop_no h hs]
theorem words_end {s : ByteArray} {i : Nat} (h : ¬ i < s.size) : wordsAt s i = [] := by rw [wordsAt, dif_neg h]
def words (s : ByteArray) : List (ByteArray × Nat) := wordsAt s 0
def wcells (x : ByteArray × Nat) : List Value := [.string x.1, .int .i64 (x.2 : Int)]
theorem wlen (x : ByteArray × Nat) : (wcells x).length = 2 := rfl
theorem wordsAt_le (s : ByteArray) (i : Nat) : (wordsAt s i).length ≤ s.size - i := by
  fun_induction wordsAt s i with
  | case1 i h h' ih => omega
  | case2 i h h' ih =>
    have := stop_ge s (i + 1)
    simp only [List.length_cons]
    omega
  | case3 i h => simp
theorem flat_snoc {x : ByteArray × Nat} {l : List (ByteArray × Nat)} : (l ++ [x]).flatMap wcells = l.flatMap wcells ++ wcells x := by simp
abbrev tW : Nat := 46
abbrev tWs : Nat := 43
abbrev tV : Nat := 39
abbrev tVs : Nat := 36
theorem infoW : (Tryd.prog.info? tW).map (fun i => (i.zero, i.size, i.bytes)) = some (some (.agg #[.string ⟨#[]⟩, .int .i64 0]), 2, 24) := by kernel_rfl
theorem infoV : (Tryd.prog.info? tV).map (fun i => (i.zero, i.size, i.bytes)) = some (some (.agg #[.string ⟨#[]⟩, .int .i64 0]), 2, 24) := by kernel_rfl
theorem one_W (x : ByteArray) (n : Int) : (#[Value.string x, .int .i64 n] : Array Value).all Value.oneCell' = true := by kernel_rfl
theorem one_w (x : ByteArray × Nat) : ∀ u ∈ wcells x, u.oneCell' = true := by
  intro u hu
  simp only [wcells, List.mem_cons, List.not_mem_nil, or_false] at hu
  rcases hu with rfl | rfl <;> rfl
theorem bytesW (n : Nat) (h : n ≤ 65536) : n + 1 ≤ maxLen ∧ (n + 1) * 24 ≤ 140737488355328 := ⟨by unfold maxLen; omega, by omega⟩
set_option maxHeartbeats 800000 in
set_option maxRecDepth 100000 in
theorem words_any (s : ByteArray) (w : World) (hs : s.size ≤ 4096) :
    Calls Tryd.prog 14 #[.string s] w fun e w' => ∃ v, e = .returned v ∧ w'.ownsRow w.heap.size tW 2 v (words s).length ((words s).flatMap wcells) ∧ Only Nil w w' := by
  obtain ⟨i0, hi0, hz0, hz1, hz2⟩ := info_parts infoW
  have hsI : (s.size : Int) ≤ 4096 := by omega
  go_enter Tryd.func14, Tryd.ntmps14
  go_wp2
  go_loopg [3, 4, 5] (s.size) (fun m v3 v4 v5 wr => ∃ (i : Nat) (D : List (ByteArray × Nat)), i ≤ s.size ∧ m = s.size - i ∧ v4 = .int .i64 i ∧ D.length ≤ i ∧ Hid (words s = D ++ wordsAt s i) ∧ Hid (wr.ownsRow w.heap.size tW 2 v3 D.length (D.flatMap wcells)) ∧ Hid (Only Nil w wr))
  case atStart => exact ⟨0, [], by omega, by omega, rfl, by simp, Lib.hid rfl, Lib.hid (own_nil _ _ _ _), Lib.hid (Only.refl _ _)⟩
  case round =>
    obtain ⟨i, D, hi, hm, rfl, hD, HW, HR, HO⟩ := hrel
    by_cases hlt : i < s.size
    · have hiI : (i : Int) < (s.size : Int) := by omega
      by_cases hb : s[i].toNat = 32
      · have HW1 : Hid (words s = D ++ wordsAt s (i + 1)) := Lib.hid (by rw [HW.out, words_sp hlt hb])
        have hb' : ((s[i].toNat : Int) == 32) = true := by rw [hb]; rfl
        clear HW hb
        go_wp2
        go_roundg (s.size - (i + 1))
        case measure => omega
        case rel => exact ⟨i + 1, D, by omega, rfl, by go_num, by omega, HW1, HR, HO⟩
      · have hb' : ((s[i].toNat : Int) == 32) = false := beq_eq_false_iff_ne.2 (by omega)
        have HW1 : Hid (words s = D ++ (s.extract i (stop s i), i) :: wordsAt s (stop s i)) := Lib.hid (by rw [HW.out, words_no hlt hb])
        have hsi : i < stop s i := by rw [stop_no hlt hb]; have := stop_ge s (i + 1); omega
        have hsl := stop_le s i (by omega)
        clear HW hb
        go_wp2
        go_loopg [4] (s.size - i) (fun m v4 wi => ∃ j : Nat, i ≤ j ∧ j ≤ s.size ∧ m = s.size - j ∧ v4 = .int .i64 j ∧ stop s j = stop s i ∧ wi = wr)
        case atStart => exact ⟨i, by omega, by omega, rfl, rfl, rfl, rfl⟩
        case round =>
          obtain ⟨j, hij, hj, hm2, rfl, hst, rfl⟩ := hrel
          by_cases hgo : ∃ h : j < s.size, ¬ s[j].toNat = 32
          · obtain ⟨hjl, hjb⟩ := hgo
            have hjI : (j : Int) < (s.size : Int) := by omega
            have hb2 : ((s[j].toNat : Int) == 32) = false := beq_eq_false_iff_ne.2 (by omega)
            have hst1 : stop s (j + 1) = stop s i := by rw [← hst, stop_no hjl hjb]
            clear hjb hst
            go_wp2
            go_roundg (s.size - (j + 1))
            case measure => omega
            case rel => exact ⟨j + 1, by omega, by omega, rfl, by go_num, hst1, rfl⟩
          · have he : j = stop s i := by
              rw [← hst]
              by_cases h : j < s.size
              · rw [stop_sp h (Classical.byContradiction fun hn => hgo ⟨h, hn⟩)]
              · rw [stop_end h]
            have hcase : (s.size : Int) ≤ (j : Int) ∨ ((j : Int) < (s.size : Int) ∧ ∃ h : j < s.size, ((s[j].toNat : Int) == 32) = true) := by
              by_cases h : j < s.size
              · refine .inr ⟨by omega, h, ?_⟩
                rw [Classical.byContradiction fun hn => hgo ⟨h, hn⟩]
                rfl
              · exact .inl (by omega)
            rw [← he] at HW1 hsi hsl
            clear hgo he hst
            rcases hcase with hc | ⟨hc, hjl, hc2⟩
            all_goals
              have hDb : D.length ≤ 65536 := by omega
              go_wp2_with (at_builtin; (refine wpList_append_lies _ rfl (.tmp 29) (.tmp 36) _ rfl w.heap.size tW i0 _ 2 24 Tryd.underlying43 hi0 hz0 hz1 hz2 rfl (by omega) u3 D.length _ rfl (HR.out.alloc _) ⟨wr.heap.size, 0, none⟩ 1 1 (wcells (s.extract i j, i)) rfl rfl (World.news_of_block (blk_new' _ _ _ rfl)) (one_w _) (by omega) (bytesW _ hDb).1 (bytesW _ hDb).2 (HO.out.alloc _).size _ rfl ?_); intro g' cap w1 hown hgrow hat hlt1)
              have hne : u3.ownBlock ≠ some wr.heap.size := fun e => by have := own_lt HR.out e; omega
              have hO1 : Only Nil w w1 := (HO.out.alloc _).grown hgrow (fun b hb hlt => by have := (HR.out.lt b hb).1; omega)
              have hW2 : Hid (words s = (D ++ [(s.extract i j, i)]) ++ wordsAt s j) := Lib.hid (by rw [HW1.out, List.append_assoc]; rfl)
              have hR1 : Hid (w1.ownsRow w.heap.size tW 2 (.slice (some ⟨g', 0, none⟩) (D.length + 1) cap) (D ++ [(s.extract i j, i)]).length ((D ++ [(s.extract i j, i)]).flatMap wcells)) := Lib.hid (by
                rw [flat_snoc, List.length_append]; exact hown)
              go_roundg (s.size - j)
              case measure => omega
              case rel => exact ⟨j, D ++ [(s.extract i j, i)], by omega, rfl, rfl, by simp; omega, hW2, hR1, Lib.hid hO1⟩
    · have he : i = s.size := by omega
      subst he
      have hw : Hid (words s = D) := Lib.hid (by rw [HW.out, words_end (by omega), List.append_nil])
      clear HW
      go_wp2
      go_ret
      exact ⟨_, rfl, by rw [hw.out]; exact HR.out, HO.out⟩
set_option maxHeartbeats 800000 in
set_option maxRecDepth 100000 in
theorem words_ref (s : ByteArray) (w : World) (hs : s.size ≤ 4096) :
    Calls Tryd.prog 10 #[.string s] w fun e w' => ∃ v, e = .returned v ∧ w'.ownsRow w.heap.size tV 2 v (words s).length ((words s).flatMap wcells) ∧ Only Nil w w' := by
  obtain ⟨i0, hi0, hz0, hz1, hz2⟩ := info_parts infoV
  have hsI : (s.size : Int) ≤ 4096 := by omega
  go_enter Tryd.func10, Tryd.ntmps10
  go_wp2
  go_loopg [3, 4, 5] (s.size + 1) (fun m v3 v4 v5 wr => ∃ (i : Nat) (D : List (ByteArray × Nat)), i ≤ s.size + 1 ∧ m = s.size + 1 - i ∧ v4 = .int .i64 i ∧ D.length ≤ i ∧ Hid (words s = D ++ wordsAt s i) ∧ Hid (wr.ownsRow w.heap.size tV 2 v3 D.length (D.flatMap wcells)) ∧ Hid (Only Nil w wr))
  case atStart => exact ⟨0, [], by omega, by omega, rfl, by simp, Lib.hid rfl, Lib.hid (own_nil _ _ _ _), Lib.hid (Only.refl _ _)⟩
  case round =>
    obtain ⟨i, D, hi, hm, rfl, hD, HW, HR, HO⟩ := hrel
    by_cases hlt : i < s.size
    · have hiI : (i : Int) < (s.size : Int) := by omega
      by_cases hb : s[i].toNat = 32
      · have HW1 : Hid (words s = D ++ wordsAt s (i + 1)) := Lib.hid (by rw [HW.out, words_sp hlt hb])
        have hb' : ((s[i].toNat : Int) == 32) = true := by rw [hb]; rfl
        clear HW hb
        go_wp2
        go_roundg (s.size + 1 - (i + 1))
        case measure => omega
        case rel => exact ⟨i + 1, D, by omega, rfl, by go_num, by omega, HW1, HR, HO⟩
      · have hb' : ((s[i].toNat : Int) == 32) = false := beq_eq_false_iff_ne.2 (by omega)
        have HW1 : Hid (words s = D ++ (s.extract i (stop s i), i) :: wordsAt s (stop s i)) := Lib.hid (by rw [HW.out, words_no hlt hb])
        have hsi : i < stop s i := by rw [stop_no hlt hb]; have := stop_ge s (i + 1); omega
        have hsl := stop_le s i (by omega)
        clear HW hb
        go_wp2
        go_loopg [4] (s.size - i) (fun m v4 wi => ∃ j : Nat, i ≤ j ∧ j ≤ s.size ∧ m = s.size - j ∧ v4 = .int .i64 j ∧ stop s j = stop s i ∧ wi = wr)
        case atStart => exact ⟨i, by omega, by omega, rfl, rfl, rfl, rfl⟩
        case round =>
          obtain ⟨j, hij, hj, hm2, rfl, hst, rfl⟩ := hrel
          by_cases hgo : ∃ h : j < s.size, ¬ s[j].toNat = 32
          · obtain ⟨hjl, hjb⟩ := hgo
            have hjI : (j : Int) < (s.size : Int) := by omega
            have hb2 : ((s[j].toNat : Int) == 32) = false := beq_eq_false_iff_ne.2 (by omega)
            have hst1 : stop s (j + 1) = stop s i := by rw [← hst, stop_no hjl hjb]
            clear hjb hst
            go_wp2
            go_roundg (s.size - (j + 1))
            case measure => omega
            case rel => exact ⟨j + 1, by omega, by omega, rfl, by go_num, hst1, rfl⟩
          · have he : j = stop s i := by
              rw [← hst]
              by_cases h : j < s.size
              · rw [stop_sp h (Classical.byContradiction fun hn => hgo ⟨h, hn⟩)]
              · rw [stop_end h]
            have hcase : (s.size : Int) ≤ (j : Int) ∨ ((j : Int) < (s.size : Int) ∧ ∃ h : j < s.size, ((s[j].toNat : Int) == 32) = true) := by
              by_cases h : j < s.size
              · refine .inr ⟨by omega, h, ?_⟩
                rw [Classical.byContradiction fun hn => hgo ⟨h, hn⟩]
                rfl
              · exact .inl (by omega)
            rw [← he] at HW1 hsi hsl
            have hwj : wordsAt s j = wordsAt s (j + 1) := by
              rcases hcase with hc | ⟨hc, hjl, hc2⟩
              · rw [words_end (by omega), words_end (by omega)]
              · exact words_sp hjl (by have := eq_of_beq hc2; omega)
            have HWj := Lib.hid hwj
            clear hwj
            clear hgo he hst
            rcases hcase with hc | ⟨hc, hjl, hc2⟩
            all_goals
              have hDb : D.length ≤ 65536 := by omega
              go_wp2_with (at_builtin; (refine wpList_append_lies _ rfl (.tmp 29) (.tmp 36) _ rfl w.heap.size tV i0 _ 2 24 Tryd.underlying36 hi0 hz0 hz1 hz2 rfl (by omega) u3 D.length _ rfl (HR.out.alloc _) ⟨wr.heap.size, 0, none⟩ 1 1 (wcells (s.extract i j, i)) rfl rfl (World.news_of_block (blk_new' _ _ _ rfl)) (one_w _) (by omega) (bytesW _ hDb).1 (bytesW _ hDb).2 (HO.out.alloc _).size _ rfl ?_); intro g' cap w1 hown hgrow hat hlt1)
              have hne : u3.ownBlock ≠ some wr.heap.size := fun e => by have := own_lt HR.out e; omega
              have hO1 : Only Nil w w1 := (HO.out.alloc _).grown hgrow (fun b hb hlt => by have := (HR.out.lt b hb).1; omega)
              have hW2 : Hid (words s = (D ++ [(s.extract i j, i)]) ++ wordsAt s (j + 1)) := Lib.hid (by rw [HW1.out, List.append_assoc, ← HWj.out]; rfl)
              have hR1 : Hid (w1.ownsRow w.heap.size tV 2 (.slice (some ⟨g', 0, none⟩) (D.length + 1) cap) (D ++ [(s.extract i j, i)]).length ((D ++ [(s.extract i j, i)]).flatMap wcells)) := Lib.hid (by
                rw [flat_snoc, List.length_append]; exact hown)
              go_roundg (s.size + 1 - (j + 1))
              case measure => omega
              case rel => exact ⟨j + 1, D ++ [(s.extract i j, i)], by omega, rfl, by go_num, by simp; omega, hW2, hR1, Lib.hid hO1⟩
    · have hge : (s.size : Int) ≤ (i : Int) := by omega
      have hw : Hid (words s = D) := Lib.hid (by rw [HW.out, words_end (by omega), List.append_nil])
      clear HW
      go_wp2
      go_ret
      exact ⟨_, rfl, by rw [hw.out]; exact HR.out, HO.out⟩
end Pa
end Go.Proofs.YtnhedhmffgaohaaDoor
