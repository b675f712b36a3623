/- The walk of the document's Lines. -/
import Derived.Test.YtnhedhmffgaohaaDoorPaX
namespace Go.Proofs.YtnhedhmffgaohaaDoor
open Go.RowKit
namespace Pa
theorem strs_snoc (D : List ByteArray) (x : ByteArray) : (D ++ [x]).map Value.string = D.map Value.string ++ [Value.string x] := by simp
theorem bytesL (n : Nat) (h : n ≤ 1000000) : n + 1 ≤ maxLen ∧ (n + 1) * 16 ≤ 140737488355328 := ⟨by unfold maxLen; omega, by omega⟩
theorem ext_snoc (s : ByteArray) (b i : Nat) (hb : b ≤ i) (hi : i < s.size) : (s.extract b i).size = i - b := by
  rw [ByteArray.size_extract]; omega
set_option maxHeartbeats 800000 in
set_option maxRecDepth 100000 in
theorem lines_ref (s : ByteArray) (w : World) (hs : s.size ≤ 200000) :
    Calls Tryd.prog 9 #[.string s] w fun e w' => ∃ v, e = .returned v ∧ w'.ownsRow w.heap.size tStr 1 v (linesAt s 0).length ((linesAt s 0).map Value.string) ∧ Only Nil w w' := by
  obtain ⟨i0, hi0, hz0, hz1, hz2⟩ := info_parts infoS
  have hsI : (s.size : Int) ≤ 200000 := by omega
  go_enter Tryd.func9, Tryd.ntmps9
  go_wp2
  go_loopg [3, 4, 5, 6] (s.size) (fun m v3 v4 v5 v6 wr => ∃ (b i : Nat) (D : List ByteArray) (o : Bool), b ≤ i ∧ i ≤ s.size ∧ m = s.size - i ∧ v6 = .int .i64 i ∧ v4 = .string (s.extract b i) ∧ v5 = .bool o ∧ Hid (o = decide (b < i)) ∧ D.length ≤ i ∧ Hid (eol s b = eol s i) ∧ Hid (linesAt s 0 = D ++ linesAt s b) ∧ Hid (wr.ownsRow w.heap.size tStr 1 v3 D.length (D.map Value.string)) ∧ Hid (Only Nil w wr))
  case atStart => exact ⟨0, 0, [], false, by omega, by omega, by omega, rfl, by congr 1; apply ba_of; simp, rfl, Lib.hid (by simp), by simp, Lib.hid rfl, Lib.hid rfl, Lib.hid (own_nil _ _ _ _), Lib.hid (Only.refl _ _)⟩
  case round =>
    obtain ⟨b, i, D, o, hb, hi, hm, rfl, rfl, rfl, HOp, hD, HE, HL, HR, HO⟩ := hrel
    by_cases hlt : i < s.size
    · have hiI : (i : Int) < (s.size : Int) := by omega
      by_cases hnl : s[i].toNat = 10
      · have hb' : ((s[i].toNat : Int) == 10) = true := by rw [hnl]; rfl
        have he : eol s b = i := by rw [HE.out, eol_nl hlt hnl]
        have HL1 : Hid (linesAt s 0 = (D ++ [s.extract b i]) ++ linesAt s (i + 1)) := Lib.hid (by rw [HL.out, lines_more (by omega), he, List.append_assoc]; rfl)
        have hDb : D.length ≤ 1000000 := by omega
        clear HE HL hnl he HOp
        generalize hx : s.extract b i = x at *
        go_wp2_with (at_builtin; (refine wpList_append_lies _ rfl (.tmp 17) (.tmp 19) _ rfl w.heap.size tStr i0 _ 1 16 Tryd.underlying27 hi0 hz0 hz1 hz2 rfl (by omega) u3 D.length _ rfl (HR.out.alloc _) ⟨wr.heap.size, 0, none⟩ 1 1 [.string x] rfl rfl (World.news_of_block (blk_new' _ _ _ rfl)) (one_s _) (by omega) (bytesL _ hDb).1 (bytesL _ hDb).2 (HO.out.alloc _).size _ rfl ?_); intro g' cap w1 hown hgrow hat hlt1)
        have hO1 : Only Nil w w1 := (HO.out.alloc _).grown hgrow (fun k hk hlt => by have := (HR.out.lt k hk).1; omega)
        have hR1 : Hid (w1.ownsRow w.heap.size tStr 1 (.slice (some ⟨g', 0, none⟩) (D.length + 1) cap) (D ++ [x]).length ((D ++ [x]).map Value.string)) := Lib.hid (by
          rw [strs_snoc, List.length_append]; exact hown)
        go_roundg (s.size - (i + 1))
        case measure => omega
        case rel => exact ⟨i + 1, i + 1, D ++ [x], false, by omega, by omega, rfl, by go_num, by congr 1; apply ba_of; simp, rfl, Lib.hid (by simp), by simp; omega, Lib.hid rfl, HL1, hR1, Lib.hid hO1⟩
      · have hb' : ((s[i].toNat : Int) == 10) = false := beq_eq_false_iff_ne.2 (by omega)
        have hsz := ext_snoc s b i hb hlt
        have hszI : ((s.extract b i).size : Int) = (i : Int) - (b : Int) := by omega
        have HE1 : Hid (eol s b = eol s (i + 1)) := Lib.hid (by rw [HE.out, eol_no hlt hnl])
        clear HE hnl HOp hsz
        generalize hx : s.extract b i = x at *
        have h1 : (i : Int) - (x.size : Int) = (b : Int) := by omega
        clear hx hszI
        have f0 : (0 : Int) ≤ (b : Int) := by omega
        have f1 : (b : Int) ≤ (i : Int) + 1 := by omega
        have f2 : (i : Int) + 1 ≤ (s.size : Int) := by omega
        have f4 : (0 : Int) ≤ (i : Int) + 1 := by omega
        go_wp2
        go_roundg (s.size - (i + 1))
        case measure => omega
        case rel => exact ⟨b, i + 1, D, true, by omega, by omega, rfl, by go_num, rfl, rfl, Lib.hid (by simp; omega), by omega, HE1, HL, HR, HO⟩
    · have hie : i = s.size := by omega
      subst hie
      have hge : ¬ ((s.size : Int) < (s.size : Int)) := by omega
      cases o with
      | false =>
        have hbs : b = s.size := by have := of_decide_eq_false HOp.out.symm; omega
        have HL1 : Hid (linesAt s 0 = D) := Lib.hid (by rw [HL.out, lines_end (by omega), List.append_nil])
        clear HOp HL HE
        generalize s.extract b s.size = x at *
        go_wp2
        go_ret
        exact ⟨_, rfl, by rw [HL1.out]; exact HR.out, HO.out⟩
      | true =>
        have hbs : b < s.size := of_decide_eq_true HOp.out.symm
        have HL1 : Hid (linesAt s 0 = D ++ [s.extract b s.size]) := Lib.hid (by
          rw [HL.out, lines_more hbs, HE.out, eol_end (by omega), lines_end (by omega)])
        have hDb : D.length ≤ 1000000 := by omega
        clear HOp HL HE
        generalize s.extract b s.size = x at *
        go_wp2_with (at_builtin; (refine wpList_append_lies _ rfl (.tmp 30) (.tmp 32) _ rfl w.heap.size tStr i0 _ 1 16 Tryd.underlying27 hi0 hz0 hz1 hz2 rfl (by omega) u3 D.length _ rfl (HR.out.alloc _) ⟨wr.heap.size, 0, none⟩ 1 1 [.string x] rfl rfl (World.news_of_block (blk_new' _ _ _ rfl)) (one_s _) (by omega) (bytesL _ hDb).1 (bytesL _ hDb).2 (HO.out.alloc _).size _ rfl ?_); intro g' cap w1 hown hgrow hat hlt1)
        have hO1 : Only Nil w w1 := (HO.out.alloc _).grown hgrow (fun k hk hlt => by have := (HR.out.lt k hk).1; omega)
        go_ret
        exact ⟨_, rfl, by rw [HL1.out, strs_snoc, List.length_append]; exact hown, hO1⟩
end Pa
end Go.Proofs.YtnhedhmffgaohaaDoor
