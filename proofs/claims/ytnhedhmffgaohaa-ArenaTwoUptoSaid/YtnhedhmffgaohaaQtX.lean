/- The walks of a queue's functions where a handle is not good, or its node stands elsewhere: here, Push, Next, Remove, Mark; First, and Set on a good handle. -/
import Derived.Test.YtnhedhmffgaohaaQtT
namespace Go.Proofs.Ytnhedhmffgaohaa
open Go.RowKit
namespace ArT

theorem QSt.blk0 {w : World} {A j : Nat} {s : Ar} {vn vf : Value} {q : Qu} {L : List Nat} (h : QSt w A j s vn vf q L) : w.cell? ⟨q.blk, 0, none⟩ = some (.pointer (some ⟨A, 0, none⟩)) ∧ q.blk < w.heap.size := ⟨h.own.2.1, h.own.2.2.2.2.2.2.2⟩

theorem neq_q_nil (w : World) (b : Nat) : (binOp .neq 124 (.pointer none) (.pointer (some ⟨b, 0, none⟩))).run Try.prog w = .ok (.bool true) w := by
  have h : ∀ d : Nat, (Op.equalIn (d + 1) 124 (.pointer none) (.pointer (some ⟨b, 0, none⟩))).run Try.prog w = .ok false w := fun d => by
    simp [Op.equalIn, run_underlying Try.underlying124]
  simp only [binOp]
  simp [Op.equal, Op.maxDepth, h 9999]

/-! ### here -/
set_option maxHeartbeats 800000 in
set_option maxRecDepth 100000 in
theorem here_bad (A j i l : Nat) (s : Ar) (vn vf : Value) (q : Qu) (L : List Nat) (w : World) (h : QSt w A j s vn vf q L) (hil : i < 4294967296) (hg : s.good i l = false) :
    Calls Try.prog 117 #[.pointer (some ⟨q.blk, 0, none⟩), .agg #[.int .u32 i, .int .u32 l]] w fun e w' => e = .returned (.tuple #[.pointer none, .int .i64 50]) ∧ Only Nil w w' := by
  have Sof : ∀ W, Only Nil (w.alloc (.cells #[.int .u32 i, .int .u32 l] tH)) W → W.cell? ⟨w.heap.size, 0, none⟩ = some (.int .u32 i) ∧ W.cell? ⟨w.heap.size, 1, none⟩ = some (.int .u32 l) ∧ W.cell? ⟨q.blk, 0, none⟩ = some (.pointer (some ⟨A, 0, none⟩)) ∧ Only Nil (w.alloc (.cells #[.int .u32 i, .int .u32 l] tH)) W := fun W ho => by
    have hbx := box_after' ho
    have hq := (h.only (((Only.refl Nil w).alloc _).trans ho (fun _ _ h => h))).blk0.1
    exact ⟨blk_cell hbx 0, blk_cell hbx 1, hq, ho⟩
  have HSof := Lib.hid Sof
  have HG := Lib.hid (fun W (ho : Only Nil (w.alloc (.cells #[.int .u32 i, .int .u32 l] tH)) W) => good_no A i l s vn vf W (h.only (((Only.refl Nil w).alloc _).trans ho (fun _ _ h => h))).rep h.wf hil hg)
  have hqlt : q.blk < w.heap.size := h.blk0.2
  clear Sof h
  go_enter Try.func117, Try.ntmps117
  go_wp2
  go_region_held3 (fun w' => w'.cell? ⟨w.heap.size, 0, none⟩ = some (.int .u32 i) ∧ w'.cell? ⟨w.heap.size, 1, none⟩ = some (.int .u32 l) ∧ w'.cell? ⟨q.blk, 0, none⟩ = some (.pointer (some ⟨A, 0, none⟩)) ∧ Only Nil (w.alloc (.cells #[.int .u32 i, .int .u32 l] tH)) w')
    (first | exact HSof.out _ (Only.refl _ _).drew | exact HSof.out _ (Only.trans (S := Nil) (T := Nil) (by assumption) hog (fun _ _ h => h)))
    ((first
      | (go_at_call 115; go_split_ands; (refine (HG.out _ (by assumption)).mono ?_); rintro e wg ⟨rfl, hog⟩)))
  have o1 : Only Nil w wg := (((Only.refl Nil w).alloc _).drew).trans hog (fun _ _ h => h)
  go_wp2
  go_ret2
  exact ⟨rfl, o1⟩

set_option maxHeartbeats 800000 in
set_option maxRecDepth 100000 in
theorem here_other (A g c i j : Nat) (s : Ar) (vf : Value) (q : Qu) (d : Nd) (w : World) (h : QAt w A g c i j s vf q d) (ht : d.taken = true) (hin : d.inq ≠ some q.blk) (hb : ∀ b, d.inq = some b → ∃ q' ∈ s.qs, q'.blk = b) :
    Calls Try.prog 117 #[.pointer (some ⟨q.blk, 0, none⟩), .agg #[.int .u32 i, .int .u32 d.life]] w fun e w' => e = .returned (.tuple #[.pointer none, .int .i64 52]) ∧ Only Nil w w' := by
  have Sof : ∀ W, Only Nil (w.alloc (.cells #[.int .u32 i, .int .u32 d.life] tH)) W → W.cell? ⟨w.heap.size, 0, none⟩ = some (.int .u32 i) ∧ W.cell? ⟨w.heap.size, 1, none⟩ = some (.int .u32 d.life) ∧ W.cell? ⟨q.blk, 0, none⟩ = some (.pointer (some ⟨A, 0, none⟩)) ∧ Only Nil (w.alloc (.cells #[.int .u32 i, .int .u32 d.life] tH)) W := fun W ho => by
    have hbx := box_after' ho
    have hq := (h.mk' (((Only.refl Nil w).alloc _).trans ho (fun _ _ h => h))).rep.base h.hq
    exact ⟨blk_cell hbx 0, blk_cell hbx 1, hq.2.1, ho⟩
  have HSof := Lib.hid Sof
  have HG := Lib.hid (fun W (ho : Only Nil (w.alloc (.cells #[.int .u32 i, .int .u32 d.life] tH)) W) => good_yes A g c i s vf d W (h.mk' (((Only.refl Nil w).alloc _).trans ho (fun _ _ h => h))).rep h.wf h.hd ht)
  have H := Lib.hid h
  have Hin := Lib.hid hin
  have Hb := Lib.hid hb
  have hqlt : q.blk < w.heap.size := (h.rep.base h.hq).2.2.2.2.2.2.2.2.2.1
  clear Sof h hin hb
  go_enter Try.func117, Try.ntmps117
  go_wp2
  go_region_held3 (fun w' => w'.cell? ⟨w.heap.size, 0, none⟩ = some (.int .u32 i) ∧ w'.cell? ⟨w.heap.size, 1, none⟩ = some (.int .u32 d.life) ∧ w'.cell? ⟨q.blk, 0, none⟩ = some (.pointer (some ⟨A, 0, none⟩)) ∧ Only Nil (w.alloc (.cells #[.int .u32 i, .int .u32 d.life] tH)) w')
    (first | exact HSof.out _ (Only.refl _ _).drew | exact HSof.out _ (Only.trans (S := Nil) (T := Nil) (by assumption) hog (fun _ _ h => h)))
    ((first
      | (go_at_call 115; go_split_ands; (refine (HG.out _ (by assumption)).mono ?_); rintro e wg ⟨rfl, hog⟩)))
  have o1 : Only Nil w wg := (((Only.refl Nil w).alloc _).drew).trans hog (fun _ _ h => h)
  have h1 := H.out.mk' o1
  obtain ⟨y, y', hn⟩ := node_of h1.rep.n h1.wf.cells h1.hd
  have hn4 := hn.c4
  have hlt : g < wg.heap.size := own_lt h1.rep.n rfl
  clear hn
  rcases hi : d.inq with _ | b
  · rw [hi] at hn4
    simp only [qptr, Option.map_none] at hn4
    have hno := neq_q_nil wg q.blk
    clear hi
    go_wp2
    go_ret2
    exact ⟨rfl, o1⟩
  · rw [hi] at hn4
    simp only [qptr, Option.map_some] at hn4
    obtain ⟨q', hq', hqb⟩ := Hb.out b hi
    have hne : b ≠ q.blk := fun e => Hin.out (by rw [hi, e])
    have hb1 := h1.rep.q q' hq'
    rw [hqb] at hb1
    have hno := neq_q_other wg hne hb1 (h1.rep.q q (List.mem_of_getElem? h1.hq))
    clear hi hqb hb1 hq'
    go_wp2
    go_ret2
    exact ⟨rfl, o1⟩

/-! ### Push -/
set_option maxHeartbeats 800000 in
set_option maxRecDepth 100000 in
theorem push_bad (A j i l : Nat) (s : Ar) (vn vf : Value) (q : Qu) (L : List Nat) (w : World) (h : QSt w A j s vn vf q L) (hil : i < 4294967296) (hg : s.good i l = false) :
    Calls Try.prog 70 #[.pointer (some ⟨q.blk, 0, none⟩), .agg #[.int .u32 i, .int .u32 l]] w fun e w' => e = .returned (.int .i64 50) ∧ Only Nil w w' := by
  have Sof : ∀ W, Only Nil (w.alloc (.cells #[.int .u32 i, .int .u32 l] tH)) W → W.cell? ⟨w.heap.size, 0, none⟩ = some (.int .u32 i) ∧ W.cell? ⟨w.heap.size, 1, none⟩ = some (.int .u32 l) ∧ W.cell? ⟨q.blk, 0, none⟩ = some (.pointer (some ⟨A, 0, none⟩)) ∧ Only Nil (w.alloc (.cells #[.int .u32 i, .int .u32 l] tH)) W := fun W ho => by
    have hbx := box_after' ho
    have hq := (h.only (((Only.refl Nil w).alloc _).trans ho (fun _ _ h => h))).blk0.1
    exact ⟨blk_cell hbx 0, blk_cell hbx 1, hq, ho⟩
  have HSof := Lib.hid Sof
  have HG := Lib.hid (fun W (ho : Only Nil (w.alloc (.cells #[.int .u32 i, .int .u32 l] tH)) W) => good_no A i l s vn vf W (h.only (((Only.refl Nil w).alloc _).trans ho (fun _ _ h => h))).rep h.wf hil hg)
  have hqlt : q.blk < w.heap.size := h.blk0.2
  clear Sof h
  go_enter Try.func70, Try.ntmps70
  go_wp2
  go_region_held3 (fun w' => w'.cell? ⟨w.heap.size, 0, none⟩ = some (.int .u32 i) ∧ w'.cell? ⟨w.heap.size, 1, none⟩ = some (.int .u32 l) ∧ w'.cell? ⟨q.blk, 0, none⟩ = some (.pointer (some ⟨A, 0, none⟩)) ∧ Only Nil (w.alloc (.cells #[.int .u32 i, .int .u32 l] tH)) w')
    (first | exact HSof.out _ (Only.refl _ _).drew | exact HSof.out _ (Only.trans (S := Nil) (T := Nil) (by assumption) hog (fun _ _ h => h)))
    ((first
      | (go_at_call 115; go_split_ands; (refine (HG.out _ (by assumption)).mono ?_); rintro e wg ⟨rfl, hog⟩)))
  have o1 : Only Nil w wg := (((Only.refl Nil w).alloc _).drew).trans hog (fun _ _ h => h)
  go_wp2
  go_ret
  exact ⟨rfl, o1⟩
set_option maxHeartbeats 800000 in
set_option maxRecDepth 100000 in
theorem push_queue (A g c i j b : Nat) (s : Ar) (vf : Value) (q : Qu) (d : Nd) (w : World) (h : QAt w A g c i j s vf q d) (ht : d.taken = true) (hin : d.inq = some b) :
    Calls Try.prog 70 #[.pointer (some ⟨q.blk, 0, none⟩), .agg #[.int .u32 i, .int .u32 d.life]] w fun e w' => e = .returned (.int .i64 52) ∧ Only Nil w w' := by
  have Sof : ∀ W, Only Nil (w.alloc (.cells #[.int .u32 i, .int .u32 d.life] tH)) W → W.cell? ⟨w.heap.size, 0, none⟩ = some (.int .u32 i) ∧ W.cell? ⟨w.heap.size, 1, none⟩ = some (.int .u32 d.life) ∧ W.cell? ⟨q.blk, 0, none⟩ = some (.pointer (some ⟨A, 0, none⟩)) ∧ Only Nil (w.alloc (.cells #[.int .u32 i, .int .u32 d.life] tH)) W := fun W ho => by
    have hbx := box_after' ho
    have hq := (h.mk' (((Only.refl Nil w).alloc _).trans ho (fun _ _ h => h))).rep.base h.hq
    exact ⟨blk_cell hbx 0, blk_cell hbx 1, hq.2.1, ho⟩
  have HSof := Lib.hid Sof
  have HG := Lib.hid (fun W (ho : Only Nil (w.alloc (.cells #[.int .u32 i, .int .u32 d.life] tH)) W) => good_yes A g c i s vf d W (h.mk' (((Only.refl Nil w).alloc _).trans ho (fun _ _ h => h))).rep h.wf h.hd ht)
  have H := Lib.hid h
  have Hin := Lib.hid hin
  have hqlt : q.blk < w.heap.size := (h.rep.base h.hq).2.2.2.2.2.2.2.2.2.1
  clear Sof h hin
  go_enter Try.func70, Try.ntmps70
  go_wp2
  go_region_held3 (fun w' => w'.cell? ⟨w.heap.size, 0, none⟩ = some (.int .u32 i) ∧ w'.cell? ⟨w.heap.size, 1, none⟩ = some (.int .u32 d.life) ∧ w'.cell? ⟨q.blk, 0, none⟩ = some (.pointer (some ⟨A, 0, none⟩)) ∧ Only Nil (w.alloc (.cells #[.int .u32 i, .int .u32 d.life] tH)) w')
    (first | exact HSof.out _ (Only.refl _ _).drew | exact HSof.out _ (Only.trans (S := Nil) (T := Nil) (by assumption) hog (fun _ _ h => h)))
    ((first
      | (go_at_call 115; go_split_ands; (refine (HG.out _ (by assumption)).mono ?_); rintro e wg ⟨rfl, hog⟩)))
  have o1 : Only Nil w wg := (((Only.refl Nil w).alloc _).drew).trans hog (fun _ _ h => h)
  have h1 := H.out.mk' o1
  obtain ⟨y, y', hn⟩ := node_of h1.rep.n h1.wf.cells h1.hd
  have hn4 := hn.c4
  rw [Hin.out] at hn4
  simp only [qptr, Option.map_some] at hn4
  have hlt : g < wg.heap.size := own_lt h1.rep.n rfl
  clear hn
  go_wp2
  go_ret
  exact ⟨rfl, o1⟩

/-! ### Next, Remove, Mark: the handle's node is not here -/
set_option maxHeartbeats 800000 in
set_option maxRecDepth 100000 in
theorem next_no (b : Nat) (i l : Nat) (x : Int) (w : World) (hx : x = 50 ∨ x = 52)
    (hh : ∀ W, Only Nil w W → Calls Try.prog 117 #[.pointer (some ⟨b, 0, none⟩), .agg #[.int .u32 i, .int .u32 l]] W fun e w' => e = .returned (.tuple #[.pointer none, .int .i64 x]) ∧ Only Nil W w') :
    Calls Try.prog 72 #[.pointer (some ⟨b, 0, none⟩), .agg #[.int .u32 i, .int .u32 l]] w fun e w' => e = .returned (.tuple #[.agg #[.int .u32 0, .int .u32 0], .bool false]) ∧ Only Nil w w' := by
  have HH := Lib.hid hh
  have hx1 : (x != 0) = true := by rcases hx with rfl | rfl <;> rfl
  clear hh hx
  go_enter Try.func72, Try.ntmps72
  go_wp2_with fail
  refine (HH.out _ (((Only.refl _ _).alloc _).alloc _)).mono ?_
  rintro e w1 ⟨rfl, ho⟩
  have hbx := ho.blk (blk_new' (w.alloc (.cells #[.int .u32 i, .int .u32 l] tH)) (.cells #[.int .u32 0, .int .u32 0] tH) (w.heap.size + 1) (by simp)) (fun h => h)
  have hB0 := blk_cell hbx 0
  have hB1 := blk_cell hbx 1
  have hBf0 := blk_frozen hbx 0
  have hBf1 := blk_frozen hbx 1
  have hBlt := blk_lt hbx
  simp only [List.getElem?_toArray, List.getElem?_cons_zero, List.getElem?_cons_succ] at hB0 hB1
  go_wp2
  refine bodyPost_ret (v := .tuple #[.agg #[.int .u32 0, .int .u32 0], .bool false]) (by simp [results, Try.results72, go_sem, hB0, hB1]) rfl ⟨rfl, ?_⟩
  exact (((((Only.refl Nil w).alloc _).alloc _).trans ho (fun _ _ h => h)).setCell (p := ⟨w.heap.size + 1, 0, none⟩) (.inr (Nat.le_succ _)) _).setCell (p := ⟨w.heap.size + 1, 1, none⟩) (.inr (Nat.le_succ _)) _
set_option maxHeartbeats 800000 in
set_option maxRecDepth 100000 in
theorem remove_no (b : Nat) (i l : Nat) (x : Int) (w : World) (hx : x = 50 ∨ x = 52)
    (hh : ∀ W, Only Nil w W → Calls Try.prog 117 #[.pointer (some ⟨b, 0, none⟩), .agg #[.int .u32 i, .int .u32 l]] W fun e w' => e = .returned (.tuple #[.pointer none, .int .i64 x]) ∧ Only Nil W w') :
    Calls Try.prog 74 #[.pointer (some ⟨b, 0, none⟩), .agg #[.int .u32 i, .int .u32 l]] w fun e w' => e = .returned (.int .i64 x) ∧ Only Nil w w' := by
  have HH := Lib.hid hh
  have hx1 : (x == 0) = false := by rcases hx with rfl | rfl <;> rfl
  clear hh hx
  go_enter Try.func74, Try.ntmps74
  go_wp2_with fail
  refine (HH.out _ ((Only.refl _ _).alloc _)).mono ?_
  rintro e w1 ⟨rfl, ho⟩
  go_wp2
  go_ret
  exact ⟨rfl, ((Only.refl Nil w).alloc _).trans ho (fun _ _ h => h)⟩
set_option maxHeartbeats 800000 in
set_option maxRecDepth 100000 in
theorem mark_no (b : Nat) (i l : Nat) (x : Int) (w : World) (hx : x = 50 ∨ x = 52)
    (hh : ∀ W, Only Nil w W → Calls Try.prog 117 #[.pointer (some ⟨b, 0, none⟩), .agg #[.int .u32 i, .int .u32 l]] W fun e w' => e = .returned (.tuple #[.pointer none, .int .i64 x]) ∧ Only Nil W w') :
    Calls Try.prog 76 #[.pointer (some ⟨b, 0, none⟩), .agg #[.int .u32 i, .int .u32 l]] w fun e w' => e = .returned (.int .i64 x) ∧ Only Nil w w' := by
  have HH := Lib.hid hh
  have hx1 : (x == 0) = false := by rcases hx with rfl | rfl <;> rfl
  clear hh hx
  go_enter Try.func76, Try.ntmps76
  go_wp2_with fail
  refine (HH.out _ ((Only.refl _ _).alloc _)).mono ?_
  rintro e w1 ⟨rfl, ho⟩
  go_wp2
  go_ret
  exact ⟨rfl, ((Only.refl Nil w).alloc _).trans ho (fun _ _ h => h)⟩
end ArT
end Go.Proofs.Ytnhedhmffgaohaa
