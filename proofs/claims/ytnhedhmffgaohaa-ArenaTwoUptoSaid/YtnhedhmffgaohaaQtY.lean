/- The walks of told, First, Next upon any queue; of Mark upon a dead node; of Set upon a good handle. -/
import Derived.Test.YtnhedhmffgaohaaQtX
import Derived.Test.YtnhedhmffgaohaaAlM3
namespace Go.Proofs.Ytnhedhmffgaohaa
open Go.RowKit

namespace ArT

/-! ### told, of the first live place -/
theorem told_fl (A j : Nat) (s : Ar) (vn vf : Value) (q : Qu) (L M : List Nat) (w : World) (h : QSt w A j s vn vf q L) (hM : ∀ k ∈ M, k ∈ L) :
    Calls Try.prog 118 #[.pointer (some ⟨q.blk, 0, none⟩), .int .i64 (firstLive s.nodes M)] w fun e w' =>
      e = .returned (.tuple #[.agg #[.int .u32 (hIx (wnt s.nodes M).head?), .int .u32 (hLf (wnt s.nodes M).head?)], .bool (wnt s.nodes M).head?.isSome]) ∧ Only Nil w w' := by
  rcases firstLive_split s.nodes M with ⟨h1, h2⟩ | ⟨M1, i, M2, rfl, h1, h2, h3⟩
  · rw [h1, wnt_dead h2]
    exact told_no q.blk w
  · obtain ⟨d, hd1, _, _⟩ := lk_mem h.ok.lk (hM i (by simp))
    obtain ⟨g, c, rfl⟩ := h.row hd1
    have hdd : d.dead = false := by rw [alive_at hd1] at h2; simpa using h2
    rw [h3, wnt_append, wnt_dead h1, List.nil_append, wnt_one hd1 hdd]
    exact told_at A g c i j s vf q d w (h.at hd1)

/-! ### First -/
set_option maxHeartbeats 800000 in
set_option maxRecDepth 100000 in
theorem first_any (A j : Nat) (s : Ar) (vn vf : Value) (q : Qu) (L : List Nat) (w : World) (h : QSt w A j s vn vf q L) :
    Calls Try.prog 86 #[.pointer (some ⟨q.blk, 0, none⟩)] w fun e w' =>
      e = .returned (.tuple #[.agg #[.int .u32 (hIx (wnt s.nodes L).head?), .int .u32 (hLf (wnt s.nodes L).head?)], .bool (wnt s.nodes L).head?.isSome]) ∧ Only Nil w w' := by
  have h0 := h.only ((Only.refl Nil w).alloc (.cells #[.int .u32 0, .int .u32 0] tH))
  have hn := next_any A j s vn vf q L (-1) L _ h0 h.ok.lk
  rw [← h.ok.first] at hn
  have HN := Lib.hid hn
  have HT := Lib.hid (told_fl A j s vn vf q L L _ h0 (fun _ h => h))
  obtain ⟨hA1, hQ0, hQ1, hQ2, hQ3, hQ4, hAlt, hqlt⟩ := h.own
  clear h h0 hn hA1 hQ0 hQ2 hQ3 hQ4
  go_enter Try.func86, Try.ntmps86
  go_wp2_with fail
  refine HN.out.mono ?_
  rintro e w1 ⟨rfl, rfl⟩
  go_wp2_with fail
  refine HT.out.mono ?_
  rintro e w1 ⟨rfl, ho⟩
  have hbx := box_after' ho
  have hB0 := blk_cell hbx 0
  have hB1 := blk_cell hbx 1
  have hBf0 := blk_frozen hbx 0
  have hBf1 := blk_frozen hbx 1
  have hBlt := blk_lt hbx
  simp only [List.getElem?_toArray, List.getElem?_cons_zero, List.getElem?_cons_succ] at hB0 hB1
  go_wp2
  refine bodyPost_ret (v := .tuple #[.agg #[.int .u32 (hIx (wnt s.nodes L).head?), .int .u32 (hLf (wnt s.nodes L).head?)], .bool (wnt s.nodes L).head?.isSome]) (by simp [results, Try.results86, go_sem, hB0, hB1]) rfl ⟨rfl, ?_⟩
  exact ((((Only.refl Nil w).alloc _).trans ho (fun _ _ h => h)).setCell (p := ⟨w.heap.size, 0, none⟩) (.inr (Nat.le_refl _)) _).setCell (p := ⟨w.heap.size, 1, none⟩) (.inr (Nat.le_refl _)) _

/-! ### Next -/
set_option maxHeartbeats 800000 in
set_option maxRecDepth 100000 in
theorem next_yes (A i j : Nat) (s : Ar) (vn vf : Value) (q : Qu) (L1 L2 : List Nat) (d : Nd) (w : World) (h : QSt w A j s vn vf q (L1 ++ i :: L2)) (hd' : s.nodes[i]? = some d) :
    Calls Try.prog 72 #[.pointer (some ⟨q.blk, 0, none⟩), .agg #[.int .u32 i, .int .u32 d.life]] w fun e w' =>
      e = .returned (.tuple #[.agg #[.int .u32 (hIx (wnt s.nodes L2).head?), .int .u32 (hLf (wnt s.nodes L2).head?)], .bool (wnt s.nodes L2).head?.isSome]) ∧ Only Nil w w' := by
  obtain ⟨g, c, rfl⟩ := h.row hd'
  obtain ⟨ht, hin, _, hb⟩ := lk_at h.ok.lk hd'
  have hl2 : Lk s.nodes q.blk (i : Int) L2 (-1) := by
    have := h.ok.lk
    rw [lk_append] at this
    exact this.2.2
  have HH := Lib.hid (fun W (ho : Only Nil w W) => here_ok A g c i j s vf q d W ((h.at hd').mk' ho) ht hin)
  have HN := Lib.hid (fun W (ho : Only Nil w W) => next_any A j s _ vf q _ (i : Int) L2 W (h.only ho) hl2)
  have HT := Lib.hid (fun W (ho : Only Nil w W) => told_fl A j s _ vf q _ L2 W (h.only ho) (fun k hk => by simp [hk]))
  have H := Lib.hid h
  have Hb := Lib.hid hb
  have Hd := Lib.hid hd'
  clear h hl2 hb ht hin hd'
  go_enter Try.func72, Try.ntmps72
  go_wp2_with fail
  refine (HH.out _ (((Only.refl _ _).alloc _).alloc _)).mono ?_
  rintro e w1 ⟨rfl, ho⟩
  have hbx := ho.blk (blk_new' (w.alloc (.cells #[.int .u32 i, .int .u32 d.life] tH)) (.cells #[.int .u32 0, .int .u32 0] tH) (w.heap.size + 1) (by simp)) (fun h => h)
  have o1 : Only Nil w w1 := (((Only.refl Nil w).alloc _).alloc _).trans ho (fun _ _ h => h)
  have h1 := H.out.only o1
  obtain ⟨y, y', hn⟩ := node_of h1.rep.n h1.wf.cells Hd.out
  have hn6 := hn.c6
  rw [Hb.out] at hn6
  have hglt := own_lt h1.rep.n (k := g) rfl
  have Hbx := Lib.hid hbx
  have O1 := Lib.hid o1
  clear hn ho hbx o1 h1
  go_wp2_with fail
  refine (HN.out _ O1.out).mono ?_
  rintro e w2 ⟨rfl, rfl⟩
  go_wp2_with fail
  refine (HT.out _ O1.out).mono ?_
  rintro e w3 ⟨rfl, ho⟩
  have hbx3 := ho.blk Hbx.out (fun h => h)
  have hB0 := blk_cell hbx3 0
  have hB1 := blk_cell hbx3 1
  have hBf0 := blk_frozen hbx3 0
  have hBf1 := blk_frozen hbx3 1
  have hBlt := blk_lt hbx3
  simp only [List.getElem?_toArray, List.getElem?_cons_zero, List.getElem?_cons_succ] at hB0 hB1
  clear hn6 hglt
  go_wp2
  refine bodyPost_ret (v := .tuple #[.agg #[.int .u32 (hIx (wnt s.nodes L2).head?), .int .u32 (hLf (wnt s.nodes L2).head?)], .bool (wnt s.nodes L2).head?.isSome]) (by simp [results, Try.results72, go_sem, hB0, hB1]) rfl ⟨rfl, ?_⟩
  exact ((O1.out.trans ho (fun _ _ h => h)).setCell (p := ⟨w.heap.size + 1, 0, none⟩) (.inr (Nat.le_succ _)) _).setCell (p := ⟨w.heap.size + 1, 1, none⟩) (.inr (Nat.le_succ _)) _

/-! ### Mark, of a dead node -/
set_option maxHeartbeats 800000 in
set_option maxRecDepth 100000 in
theorem mark_dead (A g c i j : Nat) (s : Ar) (vf : Value) (q : Qu) (d : Nd) (w : World) (h : QAt w A g c i j s vf q d) (ht : d.taken = true) (hin : d.inq = some q.blk) (hdd : d.dead = true) :
    Calls Try.prog 76 #[.pointer (some ⟨q.blk, 0, none⟩), .agg #[.int .u32 i, .int .u32 d.life]] w fun e w' => e = .returned (.int .i64 0) ∧ Only Nil w w' := by
  have h0 := h.mk' ((Only.refl Nil w).alloc (.cells #[.int .u32 i, .int .u32 d.life] tH))
  have HH := Lib.hid (here_ok A g c i j s vf q d _ h0 ht hin)
  have H := Lib.hid h
  have Hdd := Lib.hid hdd
  clear h h0 hdd hin
  go_enter Try.func76, Try.ntmps76
  go_wp2_with fail
  refine HH.out.mono ?_
  rintro e w1 ⟨rfl, ho⟩
  have o1 : Only Nil w w1 := ((Only.refl Nil w).alloc _).trans ho (fun _ _ h => h)
  have h1 := H.out.mk' o1
  obtain ⟨y, y', hn⟩ := node_of h1.rep.n h1.wf.cells h1.hd
  have hn3 := hn.c3
  rw [Hdd.out] at hn3
  have hglt := own_lt h1.rep.n (k := g) rfl
  clear hn ho h1
  go_wp2
  go_ret
  exact ⟨rfl, o1⟩

/-! ### Set -/
set_option maxHeartbeats 800000 in
set_option maxRecDepth 100000 in
theorem set_ok (A g c i : Nat) (x : Int) (y : ByteArray) (s : Ar) (vf : Value) (d : Nd) (w : World) (hr : ArRep w A s (.slice (some ⟨g, 0, none⟩) s.nodes.length c) vf) (hw : s.wf 2) (hd : s.nodes[i]? = some d) (ht : d.taken = true) :
    Calls Try.prog 65 #[.pointer (some ⟨A,0,none⟩), .agg #[.int .u32 i, .int .u32 d.life], .agg #[.int .i64 x, .string y]] w fun e w' => e = .returned (.int .i64 0) ∧
      ArRep w' A { s with nodes := s.nodes.set i { d with v := [.int .i64 x, .string y] } } (.slice (some ⟨g, 0, none⟩) s.nodes.length c) vf ∧ Only (fun b => b = g) w w' := by
  have hi : i < s.nodes.length := (List.getElem?_eq_some_iff.1 hd).1
  go_enter Try.func65, Try.ntmps65
  go_wp2_with fail
  refine (good_yes A g c i s vf d _ (hr.only (S := Nil) (((Only.refl _ _).alloc _).alloc _) (fun _ _ h => h)) hw hd ht).mono ?_
  rintro e w1 ⟨rfl, ho⟩
  have o1 : Only Nil w w1 := (((Only.refl Nil w).alloc _).alloc _).trans ho (fun _ _ h => h)
  have hr1 := hr.only (S := Nil) o1 (fun _ _ h => h)
  have hbx := ho.blk (blk_new' (w.alloc (.cells #[.int .u32 i, .int .u32 d.life] tH)) (.cells #[.int .i64 x, .string y] tT) (w.heap.size + 1) (by simp)) (fun h => h)
  obtain ⟨y0, y1, hn⟩ := node_of hr1.n hw.cells hd
  have hn0 := hn.c0
  have hn0' := hn.c0'
  have hnf : ∀ o, w1.frozen? ⟨g, o, none⟩ = false := fun o => hr1.n.frozenAt o
  have hglt := own_lt hr1.n (k := g) rfl
  have hB0 := blk_cell hbx 0
  have hB1 := blk_cell hbx 1
  have hBlt := blk_lt hbx
  simp only [List.getElem?_toArray, List.getElem?_cons_zero, List.getElem?_cons_succ] at hB0 hB1
  have hbg : w.heap.size + 1 ≠ g := fun e => own_blk_ne hr1.n hbx (by decide) (by rw [e]; rfl)
  have hgb := hbg.symm
  have r1 := hr1.setN hw.cells hd (k := 0) (u := .int .i64 x) (d' := { d with v := [.int .i64 x, y1] }) (by omega) (by simp [Nd.cells, hn.v])
  have r2 := ArRep.setN' r1 hi hw.cells rfl (k := 1) (u := .string y) (d' := { d with v := [.int .i64 x, .string y] }) (by omega) (by simp [Nd.cells])
  have R2 := Lib.hid r2
  have O1 := Lib.hid o1
  clear hn r1 r2 ho o1 hr1 hr hbx
  go_wp2
  go_ret
  exact ⟨rfl, R2.out, ((O1.out.mono (T := fun b => b = g) (fun _ _ h => h.elim)).setCell (p := ⟨g, i * 8, none⟩) (.inl rfl) _).setCell (p := ⟨g, i * 8 + 1, none⟩) (.inl rfl) _⟩
end ArT
end Go.Proofs.Ytnhedhmffgaohaa
