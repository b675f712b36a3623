/- (Turned by wip/gen/thing.py from ArI2, then by hand.) More walks of the arena's own functions: Drop, Get, Set, Len, Free, New, NewQueue. -/
import Derived.Test.YtnhedhmffgaohaaArT
import Derived.Deep.RegionHeld3
import Derived.Deep.RegionLaw
namespace Go.Proofs.Ytnhedhmffgaohaa
open Go.RowKit
namespace ArT

/-- What stands behind a call that leaves old memory alone. -/
theorem box_after {w w1 : World} {o : Obj} (ho : Only Nil (w.alloc o) w1) : w1.heap[w.heap.size]? = some o := ho.blk (blk_new w o) (fun h => h)
theorem ArRep.after {w w1 : World} {A : Nat} {s : Ar} {vn vf : Value} (h : ArRep w A s vn vf) {o : Obj} (ho : Only Nil (w.alloc o) w1) : ArRep w1 A s vn vf :=
  h.only (S := Nil) ((Only.refl _ _).alloc _ |>.trans ho (fun _ _ h => h)) (fun _ _ h => h)

theorem ArRep.drewN {w : World} {A : Nat} {s : Ar} {vn vf : Value} (h : ArRep w A s vn vf) (n : Nat) : ArRep (w.drewN n) A s vn vf := ⟨h.a, h.n, h.f, h.q⟩
theorem good_split {s : Ar} {i l : Nat} (h : s.good i l = true) : ∃ d, s.nodes[i]? = some d ∧ d.taken = true ∧ d.life = l := by
  unfold Ar.good at h
  cases hd : s.nodes[i]? with
  | none => rw [hd] at h; simp at h
  | some d => rw [hd] at h; simp at h; exact ⟨d, rfl, h.1, h.2⟩

/-! ### Drop -/
set_option maxHeartbeats 400000 in
set_option maxRecDepth 100000 in
theorem drop_bad (A i l : Nat) (s : Ar) (vn vf : Value) (w : World) (hr : ArRep w A s vn vf) (hw : s.wf 2) (hil : i < 4294967296) (hg : s.good i l = false) :
    Calls Try.prog 63 #[.pointer (some ⟨A,0,none⟩), .agg #[.int .u32 i, .int .u32 l]] w fun e w' => e = .returned (.int .i64 50) ∧ Only Nil w w' := by
  go_enter Try.func63, Try.ntmps63
  go_wp2_with fail
  refine (good_no A i l s vn vf _ (hr.only (S := Nil) ((Only.refl _ _).alloc _) (fun _ _ h => h)) hw hil hg).mono ?_
  rintro e w1 ⟨rfl, ho⟩
  go_wp2
  go_ret
  exact ⟨rfl, ((Only.refl _ w).alloc _).trans ho (fun _ _ h => h)⟩

set_option maxHeartbeats 400000 in
set_option maxRecDepth 100000 in
theorem drop_queue (A g c i q : Nat) (s : Ar) (vf : Value) (d : Nd) (w : World) (hr : ArRep w A s (.slice (some ⟨g, 0, none⟩) s.nodes.length c) vf) (hw : s.wf 2) (hd : s.nodes[i]? = some d) (ht : d.taken = true) (hq : d.inq = some q) :
    Calls Try.prog 63 #[.pointer (some ⟨A,0,none⟩), .agg #[.int .u32 i, .int .u32 d.life]] w fun e w' => e = .returned (.int .i64 52) ∧ Only Nil w w' := by
  go_enter Try.func63, Try.ntmps63
  go_wp2_with fail
  refine (good_yes A g c i s vf d _ (hr.only (S := Nil) ((Only.refl _ _).alloc _) (fun _ _ h => h)) hw hd ht).mono ?_
  rintro e w1 ⟨rfl, ho⟩
  have hr1 := hr.after ho
  obtain ⟨y0, y1, hn⟩ := node_of hr1.n hw.cells hd
  have hn4 := hn.c4
  rw [hq] at hn4
  simp only [qptr, Option.map_some] at hn4
  clear hn hq
  go_wp2
  go_ret
  exact ⟨rfl, ((Only.refl _ w).alloc _).trans ho (fun _ _ h => h)⟩

theorem infoI : (Try.prog.info? tI).map (fun i => (i.zero, i.size, i.bytes)) = some (some (.int .i64 0), 1, 8) := by kernel_rfl

set_option maxHeartbeats 800000 in
set_option maxRecDepth 100000 in
theorem drop_ok (A g c i : Nat) (s : Ar) (vf : Value) (d : Nd) (w : World) (hr : ArRep w A s (.slice (some ⟨g, 0, none⟩) s.nodes.length c) vf) (hw : s.wf 2) (hd : s.nodes[i]? = some d) (ht : d.taken = true) (hq : d.inq = none) :
    Calls Try.prog 63 #[.pointer (some ⟨A,0,none⟩), .agg #[.int .u32 i, .int .u32 d.life]] w fun e w' => e = .returned (.int .i64 0) ∧
      ∃ vf', ArRep w' A { s with nodes := s.nodes.set i (d.drop [.int .i64 0, .string zstr]), free := s.free ++ [i] } (.slice (some ⟨g, 0, none⟩) s.nodes.length c) vf' ∧ (vf'.ownBlock = vf.ownBlock ∨ ∀ k, vf'.ownBlock = some k → w.heap.size ≤ k) ∧
        Only (fun b => b = A ∨ b = g ∨ vf.ownBlock = some b) w w' := by
  have hi : i < s.nodes.length := (List.getElem?_eq_some_iff.1 hd).1
  have hlen := hw.len
  have hroom := hw.room
  have hflen := hw.flen
  obtain ⟨i0, hi0, hz0, hz1, hz2⟩ := info_parts infoI
  go_enter Try.func63, Try.ntmps63
  go_wp2_with fail
  refine (good_yes A g c i s vf d _ (hr.only (S := Nil) ((Only.refl _ _).alloc _) (fun _ _ h => h)) hw hd ht).mono ?_
  rintro e w1 ⟨rfl, ho⟩
  have hr1 := hr.after ho
  have hbox := box_after ho
  have hsz1 := ho.size
  simp only [World.size_alloc] at hsz1
  obtain ⟨y0, y1, hn⟩ := node_of hr1.n hw.cells hd
  have hn0 := hn.c0
  have hn0' := hn.c0'
  have hn2 := hn.c2
  have hn4 := hn.c4
  rw [hq] at hn4
  simp only [qptr, Option.map_none] at hn4
  have hnf : ∀ o, w1.frozen? ⟨g, o, none⟩ = false := fun o => hr1.n.frozenAt o
  have hgA : g ≠ A := ob_ne' (own_blk_ne hr1.n hr1.a (by decide))
  have hgb : g ≠ w.heap.size := ob_ne' (own_blk_ne hr1.n hbox (by decide))
  have hAb : A ≠ w.heap.size := blk_ne hr1.a hbox (by decide)
  have hAg := hgA.symm
  have hbg := hgb.symm
  have hbA := hAb.symm
  have hA2 := blk_cell hr1.a 2
  have hAf := blk_frozen hr1.a 2
  have hAlt := blk_lt hr1.a
  have hB0 := blk_cell hbox 0
  have hBlt := blk_lt hbox
  have hglt := own_lt hr1.n (k := g) rfl
  simp only [List.getElem?_toArray, List.getElem?_cons_zero, List.getElem?_cons_succ] at hA2 hB0
  obtain ⟨F, fc, rfl, hfc⟩ := own_slice hr1.f
  have hFA : (Value.slice F s.free.length fc).ownBlock ≠ some A := own_blk_ne hr1.f hr1.a (by decide)
  have hFg : (Value.slice F s.free.length fc).ownBlock ≠ some g := own_own_ne hr1.n hr1.f (by decide) rfl
  have hFb : (Value.slice F s.free.length fc).ownBlock ≠ some w.heap.size := own_blk_ne hr1.f hbox (by decide)
  clear hq
  go_wp2
  have hlay := lay_sets (enc := Nd.cells) (m := 8) (fun a ha => cells_len (hw.cells a ha)) hd [(0, .int .i64 0), (1, .string zstr), (3, .bool false)] (by simp) (y := d.drop [.int .i64 0, .string zstr])
    (by simp [Nd.cells, Nd.drop, hn.v])
  simp only [List.foldl_cons, List.foldl_nil, Nat.add_zero] at hlay
  have hnrow0 := own_set (own_set (own_set hr1.n (i * 8) (.int .i64 0)) (i * 8 + 1) (.string zstr)) (i * 8 + 3) (.bool false)
  rw [hlay] at hnrow0
  have hnrow := hnrow0.alloc (.cells #[.int .i64 0, .string zstr] tT)
  clear hnrow0
  have hfrow := (own_far (own_far (own_far hr1.f (p := ⟨g, i * 8, none⟩) hFg (.int .i64 0)) (p := ⟨g, i * 8 + 1, none⟩) hFg (.string zstr)) (p := ⟨g, i * 8 + 3, none⟩) hFg (.bool false)).alloc (.cells #[.int .i64 0, .string zstr] tT)
  have ha := blk_alloc (blk_far (blk_far (blk_far hr1.a (p := ⟨g, i * 8, none⟩) hAg (.int .i64 0)) (p := ⟨g, i * 8 + 1, none⟩) hAg (.string zstr)) (p := ⟨g, i * 8 + 3, none⟩) hAg (.bool false)) (.cells #[.int .i64 0, .string zstr] tT)
  have hb := blk_alloc (blk_far (blk_far (blk_far hbox (p := ⟨g, i * 8, none⟩) hbg (.int .i64 0)) (p := ⟨g, i * 8 + 1, none⟩) hbg (.string zstr)) (p := ⟨g, i * 8 + 3, none⟩) hbg (.bool false)) (.cells #[.int .i64 0, .string zstr] tT)
  have hqs : ∀ q ∈ s.qs, ((((w1.setCell ⟨g, i * 8, none⟩ (.int .i64 0)).setCell ⟨g, i * 8 + 1, none⟩ (.string zstr)).setCell ⟨g, i * 8 + 3, none⟩ (.bool false)).alloc (.cells #[.int .i64 0, .string zstr] tT)).heap[q.blk]? = some (.cells #[.pointer (some ⟨A, 0, none⟩), .int .i64 q.first, .int .i64 q.last, .int .i64 q.live, .int .i64 q.dead] tQ (0, 0)) := fun q hq => by
    have h1 := hr1.q q hq
    have h3 : q.blk ≠ g := fun e => own_blk_ne hr1.n h1 (by decide) (by rw [e]; rfl)
    exact blk_alloc (blk_far (blk_far (blk_far h1 (p := ⟨g, i * 8, none⟩) h3 _) (p := ⟨g, i * 8 + 1, none⟩) h3 _) (p := ⟨g, i * 8 + 3, none⟩) h3 _) _
  have hon : Only (fun b => b = A ∨ b = g ∨ (Value.slice F s.free.length fc).ownBlock = some b) w ((((w1.setCell ⟨g, i * 8, none⟩ (.int .i64 0)).setCell ⟨g, i * 8 + 1, none⟩ (.string zstr)).setCell ⟨g, i * 8 + 3, none⟩ (.bool false)).alloc (.cells #[.int .i64 0, .string zstr] tT)) :=
    ((((((Only.refl _ w).alloc _).trans ho (fun _ _ h => h.elim)).setCell (p := ⟨g, i * 8, none⟩) (.inl (.inr (.inl rfl))) _).setCell (p := ⟨g, i * 8 + 1, none⟩) (.inl (.inr (.inl rfl))) _).setCell (p := ⟨g, i * 8 + 3, none⟩) (.inl (.inr (.inl rfl))) _).alloc _
  have hsz2 : ((((w1.setCell ⟨g, i * 8, none⟩ (.int .i64 0)).setCell ⟨g, i * 8 + 1, none⟩ (.string zstr)).setCell ⟨g, i * 8 + 3, none⟩ (.bool false)).alloc (.cells #[.int .i64 0, .string zstr] tT)).heap.size ≥ w1.heap.size := by simp
  generalize ((((w1.setCell ⟨g, i * 8, none⟩ (.int .i64 0)).setCell ⟨g, i * 8 + 1, none⟩ (.string zstr)).setCell ⟨g, i * 8 + 3, none⟩ (.bool false)).alloc (.cells #[.int .i64 0, .string zstr] tT)) = w2 at *
  clear hn0 hn0' hn2 hn4 hnf hA2 hAf hB0 hlay hn
  have hA2 := blk_cell ha 2
  have hAf := blk_frozen ha 2
  have hB0 := blk_cell hb 0
  have hAlt2 := blk_lt ha
  have hBlt2 := blk_lt hb
  simp only [List.getElem?_toArray, List.getElem?_cons_zero, List.getElem?_cons_succ] at hA2 hB0
  have hwr : IntKind.i64.wrap (i : Int) = i := IntWalk.i64_in _ (by omega)
  go_region_law
    ((refine step_append_lies _ (by rfl) _ _ _ (by rfl) 0 tI i0 _ 1 8 Try.underlying22 hi0 hz0 hz1 hz2 rfl (by omega) (.slice F s.free.length fc) s.free.length _ (by rfl) ((hfrow.alloc _).drew)
        ⟨w2.heap.size, 0, none⟩ 1 1 [.int .i64 i] (by rfl) (by rfl) (World.news_of_block (cs := #[.int .i64 i]) (t := tI) (fr := (0, 0)) (heap_alloc_new w2 _)) (by simp [Value.oneCell'])
        (by omega) (by unfold maxLen; omega) (by omega) (by omega) (w2.heap.size + 1) (by simp) ?_; intro f cap w3 hown3 hgrow hat hlt; have ha3 := blk_grown (blk_drew (blk_alloc ha _)) hgrow hFA; have hA3 := blk_cell ha3 2; have hAf3 := blk_frozen ha3 2; have hAlt3 := blk_lt ha3; have hb3 := blk_grown (blk_drew (blk_alloc hb _)) hgrow hFb; have hB3 := blk_cell hb3 0; simp only [List.getElem?_toArray, List.getElem?_cons_zero, List.getElem?_cons_succ] at hA3 hB3))
  all_goals
    go_wp2
    go_ret
    refine ⟨rfl, .slice (some ⟨f, 0, none⟩) (s.free.length + 1) cap, ?_, ?_, ?_⟩
    · have hfA : f ≠ A := ob_ne' (own_blk_ne hown3 ha3 (by decide))
      refine ⟨blk_set ha3 2 _, ?_, ?_, ?_⟩
      · have h1 := own_far (own_heap (w1 := w3) ((hnrow.alloc (.cells #[.int .i64 i] tI)).drew) rfl fun k hk => hgrow.block k (own_lt ((hnrow.alloc (.cells #[.int .i64 i] tI)).drew) hk) (fun e => by
          have : g = k := by simpa [Value.ownBlock] using hk
          subst this
          exact hFg e.symm)) (p := ⟨A, 2, none⟩) (ob_ne hgA) (.slice (some ⟨f, 0, none⟩) (s.free.length + 1) cap)
        simpa using h1
      · have h1 := own_far hown3 (p := ⟨A, 2, none⟩) (ob_ne hfA) (.slice (some ⟨f, 0, none⟩) (s.free.length + 1) cap)
        simpa using h1
      · intro q hq
        have h1 := blk_grown (blk_drew (blk_alloc (hqs q hq) _)) hgrow (own_blk_ne hfrow (hqs q hq) (by decide))
        exact blk_far h1 (blk_ne h1 ha3 (by decide)) _
    · rcases hat with h | h
      · exact .inl h.symm
      · right
        intro k hk
        have : f = k := by simpa [Value.ownBlock] using hk
        omega
    · exact (((hon.alloc _).drew).grown hgrow (fun k hk _ => .inr (.inr hk))).setCell (p := ⟨A, 2, none⟩) (.inl (.inl rfl)) _

/-! ### Get, Set -/
set_option maxHeartbeats 400000 in
set_option maxRecDepth 100000 in
theorem get_bad (A i l : Nat) (s : Ar) (vn vf : Value) (w : World) (hr : ArRep w A s vn vf) (hw : s.wf 2) (hil : i < 4294967296) (hg : s.good i l = false) :
    Calls Try.prog 69 #[.pointer (some ⟨A,0,none⟩), .agg #[.int .u32 i, .int .u32 l]] w fun e w' => e = .returned (.tuple #[.agg #[.int .i64 0, .string zstr], .int .i64 50]) ∧ Only Nil w w' := by
  go_enter Try.func69, Try.ntmps69
  go_wp2_with fail
  refine (good_no A i l s vn vf _ (hr.only (S := Nil) (((Only.refl _ _).alloc _).alloc _) (fun _ _ h => h)) hw hil hg).mono ?_
  rintro e w1 ⟨rfl, ho⟩
  have hbx := ho.blk (blk_new' (w.alloc (.cells #[.int .u32 i, .int .u32 l] tH)) (.cells #[.int .i64 0, .string zstr] tT) (w.heap.size + 1) (by simp)) (fun h => h)
  have hB0 := blk_cell hbx 0
  have hB1 := blk_cell hbx 1
  have hBf0 := blk_frozen hbx 0
  have hBf1 := blk_frozen hbx 1
  have hBlt := blk_lt hbx
  simp only [List.getElem?_toArray, List.getElem?_cons_zero, List.getElem?_cons_succ] at hB0 hB1
  go_wp2
  refine bodyPost_ret (v := .tuple #[.agg #[.int .i64 0, .string zstr], .int .i64 50]) (by simp [results, Try.results69, go_sem, hB0, hB1, hBlt]) rfl ⟨rfl, ?_⟩
  exact ((((((Only.refl Nil w).alloc _).alloc _).trans ho (fun _ _ h => h)).setCell (p := ⟨w.heap.size + 1, 0, none⟩) (.inr (Nat.le_succ _)) _).setCell (p := ⟨w.heap.size + 1, 1, none⟩) (.inr (Nat.le_succ _)) _).alloc _

set_option maxHeartbeats 400000 in
set_option maxRecDepth 100000 in
theorem get_ok (A g c i : Nat) (x : Int) (y : ByteArray) (s : Ar) (vf : Value) (d : Nd) (w : World) (hr : ArRep w A s (.slice (some ⟨g, 0, none⟩) s.nodes.length c) vf) (hw : s.wf 2) (hd : s.nodes[i]? = some d) (ht : d.taken = true) (hx : d.v = [.int .i64 x, .string y]) :
    Calls Try.prog 69 #[.pointer (some ⟨A,0,none⟩), .agg #[.int .u32 i, .int .u32 d.life]] w fun e w' => e = .returned (.tuple #[.agg #[.int .i64 x, .string y], .int .i64 0]) ∧ Only Nil w w' := by
  go_enter Try.func69, Try.ntmps69
  go_wp2_with fail
  refine (good_yes A g c i s vf d _ (hr.only (S := Nil) (((Only.refl _ _).alloc _).alloc _) (fun _ _ h => h)) hw hd ht).mono ?_
  rintro e w1 ⟨rfl, ho⟩
  have hbx := ho.blk (blk_new' (w.alloc (.cells #[.int .u32 i, .int .u32 d.life] tH)) (.cells #[.int .i64 0, .string zstr] tT) (w.heap.size + 1) (by simp)) (fun h => h)
  have hB0 := blk_cell hbx 0
  have hB1 := blk_cell hbx 1
  have hBf0 := blk_frozen hbx 0
  have hBf1 := blk_frozen hbx 1
  have hBlt := blk_lt hbx
  simp only [List.getElem?_toArray, List.getElem?_cons_zero, List.getElem?_cons_succ] at hB0 hB1
  have hr1 := hr.only (S := Nil) ((((Only.refl _ _).alloc _).alloc _).trans ho (fun _ _ h => h)) (fun _ _ h => h)
  obtain ⟨y0, y1, hn⟩ := node_of hr1.n hw.cells hd
  have hn0 := hn.c0
  have hn0' := hn.c0'
  have e := hn.v
  rw [hx] at e
  injection e with e e'
  injection e' with e' _
  subst e
  subst e'
  clear hn hx
  go_wp2
  refine bodyPost_ret (v := .tuple #[.agg #[.int .i64 x, .string y], .int .i64 0]) (by simp [results, Try.results69, go_sem, hB0, hB1]) rfl ⟨rfl, ?_⟩
  exact (((((Only.refl Nil w).alloc _).alloc _).trans ho (fun _ _ h => h)).setCell (p := ⟨w.heap.size + 1, 0, none⟩) (.inr (Nat.le_succ _)) _).setCell (p := ⟨w.heap.size + 1, 1, none⟩) (.inr (Nat.le_succ _)) _

set_option maxHeartbeats 400000 in
set_option maxRecDepth 100000 in
theorem set_bad (A i l : Nat) (x : Int) (y : ByteArray) (s : Ar) (vn vf : Value) (w : World) (hr : ArRep w A s vn vf) (hw : s.wf 2) (hil : i < 4294967296) (hg : s.good i l = false) :
    Calls Try.prog 65 #[.pointer (some ⟨A,0,none⟩), .agg #[.int .u32 i, .int .u32 l], .agg #[.int .i64 x, .string y]] w fun e w' => e = .returned (.int .i64 50) ∧ Only Nil w w' := by
  go_enter Try.func65, Try.ntmps65
  go_wp2_with fail
  refine (good_no A i l s vn vf _ (hr.only (S := Nil) (((Only.refl _ _).alloc _).alloc _) (fun _ _ h => h)) hw hil hg).mono ?_
  rintro e w1 ⟨rfl, ho⟩
  go_wp2
  go_ret
  exact ⟨rfl, (((Only.refl _ w).alloc _).alloc _).trans ho (fun _ _ h => h)⟩

/-! ### Len, Free -/
set_option maxHeartbeats 400000 in
set_option maxRecDepth 100000 in
theorem len_any (A : Nat) (s : Ar) (vn vf : Value) (w : World) (hr : ArRep w A s vn vf) (hw : s.wf 2) :
    Calls Try.prog 82 #[.pointer (some ⟨A,0,none⟩)] w fun e w' => e = .returned (.int .i64 ((s.nodes.length - s.free.length : Nat) : Int)) ∧ ∃ n, w' = w.drewN n := by
  have hlen := hw.len
  have hroom := hw.room
  have hflen := hw.flen
  have hA1 := blk_cell hr.a 1
  have hA2 := blk_cell hr.a 2
  simp only [List.getElem?_toArray, List.getElem?_cons_zero, List.getElem?_cons_succ] at hA1 hA2
  obtain ⟨N, nc, rfl, hnc⟩ := own_slice hr.n
  obtain ⟨F, fc, rfl, hfc⟩ := own_slice hr.f
  go_enter Try.func82, Try.ntmps82
  go_wp2
  go_quiet (fail)
  go_wp2
  go_ret
  exact ⟨ret_int (by omega), _, rfl⟩

set_option maxHeartbeats 400000 in
set_option maxRecDepth 100000 in
theorem free_any (A : Nat) (s : Ar) (vn vf : Value) (w : World) (hr : ArRep w A s vn vf) (hw : s.wf 2) :
    Calls Try.prog 83 #[.pointer (some ⟨A,0,none⟩)] w fun e w' => e = .returned (.int .i64 ((s.room - (s.nodes.length - s.free.length) : Nat) : Int)) ∧ ∃ n, w' = w.drewN n := by
  have hlen := hw.len
  have hroom := hw.room
  have hflen := hw.flen
  have hA0 := blk_cell hr.a 0
  simp only [List.getElem?_toArray, List.getElem?_cons_zero] at hA0
  have hlb : 0 ≤ ((s.nodes.length - s.free.length : Nat) : Int) := by omega
  have hub : ((s.nodes.length - s.free.length : Nat) : Int) ≤ 65536 := by omega
  have hl := fun W (h : ArRep W A s vn vf) => len_any A s vn vf W h hw
  generalize hm : s.nodes.length - s.free.length = m at *
  have hm' : m ≤ s.room := by omega
  clear hm
  have HL := Lib.hid hl
  clear hl
  go_enter Try.func83, Try.ntmps83
  go_wp2_with fail
  go_quiet ((go_at_call 82; exact Calls.quiet_of (HL.out _ (hr.drewN _))))
  go_wp2
  go_ret
  exact ⟨ret_int (by omega), _, rfl⟩

/-! ### New -/
set_option maxHeartbeats 400000 in
theorem new_bad (room : Int) (w : World) (h : room < 1 ∨ 65536 < room) (h2 : -9223372036854775808 ≤ room) (h3 : room ≤ 9223372036854775807) :
    Calls Try.prog 60 #[.int .i64 room] w fun e w' => e = .returned (.tuple #[.pointer none, .int .i64 1]) ∧ w' = w := by
  by_cases h1 : room < 1
  · go_enter Try.func60, Try.ntmps60
    go_wp2
    go_ret2
    exact ⟨rfl, rfl⟩
  · have h4 : 65536 < room := by omega
    clear h
    go_enter Try.func60, Try.ntmps60
    go_wp2
    go_ret2
    exact ⟨rfl, rfl⟩
set_option maxHeartbeats 400000 in
theorem new_ok (room : Nat) (w : World) (h : 1 ≤ room) (h2 : room ≤ 65536) :
    Calls Try.prog 60 #[.int .i64 room] w fun e w' => e = .returned (.tuple #[.pointer (some ⟨w.heap.size, 0, none⟩), .int .i64 0]) ∧ w' = w.alloc (.cells #[.int .i64 room, .slice none 0 0, .slice none 0 0] tA) := by
  have h3 : ¬ ((room : Int) < 1) := by omega
  have h4 : ¬ (65536 < (room : Int)) := by omega
  go_enter Try.func60, Try.ntmps60
  go_wp2
  go_ret2
  exact ⟨rfl, rfl⟩
theorem new_rep (room : Nat) (w : World) : ArRep (w.alloc (.cells #[.int .i64 room, .slice none 0 0, .slice none 0 0] tA)) w.heap.size ⟨room, [], [], []⟩ (.slice none 0 0) (.slice none 0 0) :=
  ⟨blk_new w _, own_nil _ _ _ _, own_nil _ _ _ _, fun q hq => by simp at hq⟩
end ArT
end Go.Proofs.Ytnhedhmffgaohaa
