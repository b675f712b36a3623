/- The walk of the document's command. -/
import Derived.Test.YtnhedhmffgaohaaDoorPaT
namespace Go.Proofs.YtnhedhmffgaohaaDoor
open Go.RowKit
namespace Pa
theorem word_at {w : World} {T : TypeId} {g n c base : Nat} {l : List (ByteArray × Nat)} (h : w.ownsRow base T 2 (.slice (some ⟨g, 0, none⟩) n c) n (l.flatMap wcells)) {i : Nat} {x : ByteArray × Nat} (hx : l[i]? = some x) :
    w.cell? ⟨g, i * 2, none⟩ = some (.string x.1) ∧ w.cell? ⟨g, i * 2 + 1, none⟩ = some (.int .i64 (x.2 : Int)) :=
  ⟨own_cell h (by have := lay_get (enc := wcells) (m := 2) (fun a _ => wlen a) hx (k := 0) (by omega); simpa [wcells] using this),
   own_cell h (by have := lay_get (enc := wcells) (m := 2) (fun a _ => wlen a) hx (k := 1) (by omega); simpa [wcells] using this)⟩
theorem look_in {s f : ByteArray} : ∀ {l : List (ByteArray × ByteArray)}, look s l = some f → ∃ p ∈ l, p.2 = f
  | [], h => by cases h
  | q :: l, h => by
    simp only [look] at h
    split at h
    · injection h with h
      exact ⟨q, by simp, h⟩
    · obtain ⟨p, hp, e⟩ := look_in h
      exact ⟨p, by simp [hp], e⟩
theorem forms_ok {s f : ByteArray} (h : look s tbl = some f) : (∀ c ∈ f.data.toList, c = 109 ∨ c = 105 ∨ c = 110 ∨ c = 78 ∨ c = 67) ∧ f.size ≤ 16 ∧ (f.toList == [45]) = false := by
  have h1 : tbl.all (fun p => p.2.data.toList.all (fun c => decide (c = 109 ∨ c = 105 ∨ c = 110 ∨ c = 78 ∨ c = 67)) && decide (p.2.size ≤ 16) && !(p.2.data.toList == [45])) = true := by kernel_rfl
  obtain ⟨p, hp, rfl⟩ := look_in h
  have h2 := List.all_eq_true.1 h1 p hp
  simp only [Bool.and_eq_true, decide_eq_true_eq, Bool.not_eq_true'] at h2
  refine ⟨fun c hc => of_decide_eq_true (List.all_eq_true.1 h2.1.1 c hc), h2.1.2, ?_⟩
  rw [ByteArray.toList_eq]
  exact h2.2
def cmdOut (r : Res) (base : Nat) (e : Ending) (w' : World) : Prop := match r with
  | .bad a => e = .returned (.tuple #[.slice none 0 0, .int .i64 (a : Int), .int .i64 280])
  | .good l => ∃ v, e = .returned (.tuple #[v, .int .i64 0, .int .i64 0]) ∧ w'.ownsRow base tStr 1 v l.length (l.map Value.string)
theorem cmd_none {len ahead : Nat} {w0 : ByteArray × Nat} {ws : List (ByteArray × Nat)} (h : look w0.1 tbl = none) : cmd len w0 ws ahead = .bad w0.2 := by unfold cmd; rw [h]
theorem cmd_off {len ahead : Nat} {w0 : ByteArray × Nat} {ws : List (ByteArray × Nat)} {f : ByteArray} (h : look w0.1 tbl = some f) (h2 : (w0.1.toList == mkt.toList) = !decide (ahead = 0)) : cmd len w0 ws ahead = .bad w0.2 := by
  unfold cmd; rw [h]; simp only; rw [h2, if_pos (by cases decide (ahead = 0) <;> rfl)]
theorem cmd_on {len ahead : Nat} {w0 : ByteArray × Nat} {ws : List (ByteArray × Nat)} {f : ByteArray} (h : look w0.1 tbl = some f) (h2 : (w0.1.toList == mkt.toList) = decide (ahead = 0)) : cmd len w0 ws ahead = argsGo len f.data.toList ws := by
  unfold cmd; rw [h]; simp only; rw [h2, if_neg (by cases decide (ahead = 0) <;> simp)]
theorem mkt_list : mkt.toList = [109, 97, 114, 107, 101, 116] := by rw [ByteArray.toList_eq]; rfl
theorem own_mono {w : World} {base base' n size : Nat} {e : TypeId} {v : Value} {xs : List Value} (h : w.ownsRow base e size v n xs) (hb : base' ≤ base) : w.ownsRow base' e size v n xs :=
  ⟨h.1, h.2.imp id fun ⟨g, cap, cur, h1, h2, h3⟩ => ⟨g, cap, cur, h1, Nat.le_trans hb h2, h3⟩⟩
theorem infoS : (Tryd.prog.info? tStr).map (fun i => (i.zero, i.size, i.bytes)) = some (some (.string ⟨#[]⟩), 1, 16) := by kernel_rfl
theorem bytesS (n : Nat) (h : n ≤ 65536) : n + 1 ≤ maxLen ∧ (n + 1) * 16 ≤ 140737488355328 := ⟨by unfold maxLen; omega, by omega⟩
theorem one_s (x : ByteArray) : ∀ u ∈ [Value.string x], u.oneCell' = true := by
  intro u hu
  simp only [List.mem_cons, List.not_mem_nil, or_false] at hu
  rcases hu with rfl
  rfl
theorem take_args {ws : List (ByteArray × Nat)} {k : Nat} {x : ByteArray × Nat} (hx : ws[k]? = some x) : (ws.take (k + 1)).map (fun x => Value.string x.1) = (ws.take k).map (fun x => Value.string x.1) ++ [Value.string x.1] := by
  obtain ⟨h, rfl⟩ := List.getElem?_eq_some_iff.1 hx
  rw [List.take_succ_eq_append_getElem h, List.map_append]
  rfl
set_option maxHeartbeats 1600000 in
set_option maxRecDepth 100000 in
theorem command_ref (line : ByteArray) (w0 : ByteArray × Nat) (ws : List (ByteArray × Nat)) (v : Value) (ahead : Nat) (w : World) (hr : w.ownsRow 0 tV 2 v (w0 :: ws).length ((w0 :: ws).flatMap wcells))
    (hws : ws.length ≤ 4096) (hsz : ∀ x ∈ w0 :: ws, x.1.size ≤ 4096 ∧ x.2 ≤ 4096) :
    Calls Tryd.prog 11 #[.string line, v, .int .i64 (ahead : Int)] w fun e w' => cmdOut (cmd line.size w0 ws ahead) w.heap.size e w' ∧ Only Nil w w' := by
  obtain ⟨i0, hi0, hz0, hz1, hz2⟩ := info_parts infoS
  obtain ⟨g, c, rfl, hg, hnc, hcm⟩ := own_row hr (by simp)
  have HR := Lib.hid hr
  have HF := Lib.hid (fun W => form_any w0.1 W)
  obtain ⟨c0, c1⟩ := word_at hr (i := 0) (x := w0) rfl
  have hlenI : ((w0 :: ws).length : Int) = (ws.length : Int) + 1 := by simp
  have hn0 : 0 < (w0 :: ws).length := by simp
  have h0 := hsz w0 (by simp)
  generalize hN : (w0 :: ws).length = N at *
  rw [show (0 : Nat) * 2 = 0 from rfl] at c0 c1
  have HS := Lib.hid hsz
  clear hr hsz
  go_enter Tryd.func11, Tryd.ntmps11
  go_wp2_with fail
  refine (HF.out _).mono ?_
  rintro e w1 ⟨rfl, ho⟩
  have d0 := ho.cell (p := ⟨g, 0, none⟩) hg (fun h => h)
  have d1 := ho.cell (p := ⟨g, 0 + 1, none⟩) hg (fun h => h)
  rw [c0] at d0
  rw [c1] at d1
  have hg1 : g < w1.heap.size := Nat.lt_of_lt_of_le hg ho.size
  have HO := Lib.hid ho
  clear c0 c1 hg ho HF
  cases hl : look w0.1 tbl with
  | none =>
    have HC : Hid (cmd line.size w0 ws ahead = .bad w0.2) := Lib.hid (cmd_none hl)
    clear hl
    obtain ⟨s0, a0⟩ := w0
    simp only [Option.getD] at *
    go_wp2
    go_quiet (fail)
    go_wp2
    go_ret3
    rw [HC.out]
    exact ⟨rfl, HO.out.drewN _⟩
  | some f =>
    obtain ⟨hfk, hfs, hfd⟩ := forms_ok hl
    simp only [Option.getD]
    by_cases hgood : (w0.1.toList == mkt.toList) = decide (ahead = 0)
    · have HC : Hid (cmd line.size w0 ws ahead = argsGo line.size f.data.toList ws) := Lib.hid (cmd_on hl hgood)
      have hcase : ((w0.1.toList == [109, 97, 114, 107, 101, 116]) = true ∧ ((ahead : Int) == 0) = true) ∨ ((w0.1.toList == [109, 97, 114, 107, 101, 116]) = false ∧ ((ahead : Int) == 0) = false) := by
        rw [mkt_list] at hgood
        by_cases ha : ahead = 0
        · exact .inl ⟨by rw [hgood]; simp [ha], by simp [ha]⟩
        · exact .inr ⟨by rw [hgood]; simp [ha], by simp [ha]⟩
      have HFk := Lib.hid hfk
      clear hl hgood hfk
      have hw1 : w1.ownsRow 0 tV 2 (.slice (some ⟨g, 0, none⟩) N c) N ((w0 :: ws).flatMap wcells) := own_only HR.out HO.out (fun _ _ h => h)
      have HR1 := Lib.hid hw1
      clear hw1 HR
      obtain ⟨s0, a0⟩ := w0
      simp only at *
      rcases hcase with ⟨hm, ha⟩ | ⟨hm, ha⟩
      all_goals
        go_wp2
        clear d0 d1 hm ha hfd
        go_loopg [10, 11] (f.size) (fun m v10 v11 wr => ∃ k : Nat, m = f.size - k ∧ v11 = .int .i64 k ∧ Hid (Upto line.size f.data.toList ws k) ∧ Hid (wr.ownsRow w1.heap.size tStr 1 v10 k ((ws.take k).map fun x => Value.string x.1)) ∧ Hid (Only Nil w1 wr))
        case atStart => exact ⟨0, by omega, rfl, Lib.hid (Upto.zero _ _ _), Lib.hid (by simpa using own_nil _ _ _ _), Lib.hid (Only.refl _ _)⟩
        case round =>
          obtain ⟨k, hm, rfl, HU, HV, HO2⟩ := hrel
          have hkf : k ≤ f.size := by have := HU.out.hk; simpa using this
          have hkw := HU.out.hw
          have HR2 := Lib.hid (own_only HR1.out HO2.out (fun _ _ h => h))
          have hg2 : g < wr.heap.size := Nat.lt_of_lt_of_le hg1 HO2.out.size
          by_cases hlt : k < f.size
          · have hkI : (k : Int) < (f.size : Int) := by omega
            have hfc := byte_get hlt
            by_cases hws2 : k < ws.length
            · have hwI : (k : Int) + 1 < (N : Int) := by omega
              have hwx : ws[k]? = some ws[k] := List.getElem?_eq_getElem hws2
              obtain ⟨e0, e1⟩ := word_at HR2.out (i := k + 1) (x := ws[k]) (by simpa only [List.getElem?_cons_succ] using hwx)
              have hxs := HS.out ws[k] (by simp)
              generalize ws[k] = x at *
              obtain ⟨t, p⟩ := x
              simp only at *
              have HFit := Lib.hid (fun W => (fits_ref t f[k] W (HFk.out _ (List.mem_of_getElem? hfc)) (by omega)).mono (fun _ _ ⟨h1, h2⟩ => (⟨h1, h2.symm⟩ : _ ∧ _ = W)))
              have hk0 : (0 : Int) ≤ (k : Int) + 1 := by omega
              have hk1 : ((k : Int) + 1).toNat = k + 1 := by omega
              go_wp2_with fail
              go_quiet (refine Calls.quiet_of_same (HFit.out _))
              cases hfit : fits f[k] t.data.toList with
              | false =>
                have HA := Lib.hid (HU.out.misfit hfc hwx hfit)
                clear HU hwx hfc hfit
                go_wp2
                go_quiet (fail)
                go_wp2
                go_ret3
                rw [HC.out, HA.out]
                exact ⟨rfl, ((HO.out.trans (S := Nil) HO2.out (fun _ _ h => h)).drewN _).drewN _⟩
              | true =>
                have HU1 := Lib.hid (HU.out.next hfc hwx hfit)
                have HT := Lib.hid (take_args hwx)
                clear HU hwx hfc hfit
                go_wp2_with (at_builtin; (refine wpList_append_lies _ rfl (.tmp 63) (.tmp 70) _ rfl w1.heap.size tStr i0 _ 1 16 Tryd.underlying27 hi0 hz0 hz1 hz2 rfl (by omega) u10 k _ rfl ((own_drewN HV.out nq).alloc _) ⟨wr.heap.size, 0, none⟩ 1 1 [.string t] rfl rfl (World.news_of_block (blk_new' _ _ _ rfl)) (one_s _) (by omega) (bytesS _ (by omega)).1 (bytesS _ (by omega)).2 ((HO2.out.drewN nq).alloc _).size _ rfl ?_); intro g' cap w2 hown hgrow hat hlt1)
                have hu : u10.ownBlock ≠ some wr.heap.size := fun e => by have := own_lt HV.out e; omega
                have hO3 : Only Nil w1 w2 := ((HO2.out.drewN nq).alloc _).grown hgrow (fun b hb hlt => by have := (HV.out.lt b hb).1; omega)
                have hV3 : Hid (w2.ownsRow w1.heap.size tStr 1 (.slice (some ⟨g', 0, none⟩) (k + 1) cap) (k + 1) ((ws.take (k + 1)).map fun x => Value.string x.1)) := Lib.hid (by rw [HT.out]; exact hown)
                go_roundg (f.size - (k + 1))
                case measure => omega
                case rel => exact ⟨k + 1, rfl, by go_num, HU1, hV3, Lib.hid hO3⟩
            · have HA := Lib.hid (HU.out.few (by simpa using hlt) (by omega))
              have hwI : (N : Int) ≤ (k : Int) + 1 := by omega
              clear HU
              go_wp2
              go_ret3
              rw [HC.out, HA.out]
              exact ⟨rfl, HO.out.trans (S := Nil) HO2.out (fun _ _ h => h)⟩
          · have hkf2 : k = f.size := by omega
            subst hkf2
            by_cases hws2 : f.size < ws.length
            · have hwx : ws[f.size]? = some ws[f.size] := List.getElem?_eq_getElem hws2
              obtain ⟨e0, e1⟩ := word_at HR2.out (i := f.size + 1) (x := ws[f.size]) (by simpa only [List.getElem?_cons_succ] using hwx)
              have HA := Lib.hid (HU.out.many (by simp) hwx)
              have hwI : (f.size : Int) + 1 < (N : Int) := by omega
              generalize ws[f.size] = x at *
              obtain ⟨t, p⟩ := x
              simp only at *
              have hk0 : (0 : Int) ≤ (f.size : Int) + 1 := by omega
              have hk1 : ((f.size : Int) + 1).toNat = f.size + 1 := by omega
              clear HU hwx
              go_wp2
              go_quiet (fail)
              go_wp2
              go_ret3
              rw [HC.out, HA.out]
              exact ⟨rfl, (HO.out.trans (S := Nil) HO2.out (fun _ _ h => h)).drewN _⟩
            · have hwl : ws.length = f.size := by omega
              have HA := Lib.hid (HU.out.all (by simp) (by omega))
              have hwI : (N : Int) ≤ (f.size : Int) + 1 := by omega
              have HV4 : Hid (wr.ownsRow w.heap.size tStr 1 u10 (ws.map (·.1)).length ((ws.map (·.1)).map Value.string)) := Lib.hid (by
                have := HV.out
                rw [List.take_of_length_le (by omega)] at this
                rw [List.length_map, hwl, List.map_map]
                exact own_mono this HO.out.size)
              clear HU
              go_wp2
              go_ret3
              rw [HC.out, HA.out]
              exact ⟨⟨_, rfl, HV4.out⟩, HO.out.trans (S := Nil) HO2.out (fun _ _ h => h)⟩
    · have HC : Hid (cmd line.size w0 ws ahead = .bad w0.2) := Lib.hid (cmd_off hl (by
        cases h1 : (w0.1.toList == mkt.toList) <;> cases h2 : decide (ahead = 0) <;> first | rfl | (rw [h1, h2] at hgood; exact absurd rfl hgood)))
      have hcase : ((w0.1.toList == [109, 97, 114, 107, 101, 116]) = true ∧ ((ahead : Int) == 0) = false) ∨ ((w0.1.toList == [109, 97, 114, 107, 101, 116]) = false ∧ ((ahead : Int) == 0) = true) := by
        rw [mkt_list] at hgood
        by_cases ha : ahead = 0
        · exact .inr ⟨by cases h1 : (w0.1.toList == [109, 97, 114, 107, 101, 116]) with
            | false => rfl
            | true => rw [h1] at hgood; simp [ha] at hgood, by simp [ha]⟩
        · exact .inl ⟨by cases h1 : (w0.1.toList == [109, 97, 114, 107, 101, 116]) with
            | true => rfl
            | false => rw [h1] at hgood; simp [ha] at hgood, by simp [ha]⟩
      clear hl hgood hfk
      obtain ⟨s0, a0⟩ := w0
      simp only at *
      rcases hcase with ⟨hm, ha⟩ | ⟨hm, ha⟩
      all_goals
        go_wp2
        go_quiet (fail)
        go_wp2
        go_ret3
        rw [HC.out]
        exact ⟨rfl, HO.out.drewN _⟩
end Pa
end Go.Proofs.YtnhedhmffgaohaaDoor
