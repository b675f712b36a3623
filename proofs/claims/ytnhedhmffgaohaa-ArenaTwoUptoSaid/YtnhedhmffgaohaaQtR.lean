/- The walks of Mark, Remove, next, told. -/
import Derived.Test.YtnhedhmffgaohaaQtP
import Derived.Deep.LoopGhost
namespace Go.Proofs.Ytnhedhmffgaohaa
open Go.RowKit
namespace ArT

/-- A queue of an arena, in memory. -/
structure QSt (w : World) (A j : Nat) (s : Ar) (vn vf : Value) (q : Qu) (L : List Nat) : Prop where
  rep : ArRep w A s vn vf
  wf : s.wf 2
  nodup : (s.qs.map Qu.blk).Nodup
  hq : s.qs[j]? = some q
  ok : QOk s.nodes q L
  lo : L.length ≤ 65536

theorem QSt.only {w w1 : World} {A j : Nat} {s : Ar} {vn vf : Value} {q : Qu} {L : List Nat} (h : QSt w A j s vn vf q L) (ho : Only Nil w w1) : QSt w1 A j s vn vf q L :=
  ⟨h.rep.only ho (fun _ _ h => h), h.wf, h.nodup, h.hq, h.ok, h.lo⟩
theorem QSt.lo' {w : World} {A j : Nat} {s : Ar} {vn vf : Value} {q : Qu} {L : List Nat} (h : QSt w A j s vn vf q L) : 0 ≤ q.live ∧ q.live ≤ 65536 ∧ 0 ≤ q.dead ∧ q.dead ≤ 65536 := by
  have h1 := h.ok.live
  have h2 := h.ok.dead
  have h3 := List.length_filter_le (alive s.nodes) L
  have h4 := List.length_filter_le (fun i => !alive s.nodes i) L
  have h5 := h.lo
  omega
theorem QSt.at {w : World} {A g c i j : Nat} {s : Ar} {vf : Value} {q : Qu} {L : List Nat} {d : Nd} (h : QSt w A j s (.slice (some ⟨g, 0, none⟩) s.nodes.length c) vf q L) (hd' : s.nodes[i]? = some d) : QAt w A g c i j s vf q d :=
  ⟨h.rep, h.wf, h.nodup, h.hq, hd', h.lo'⟩
theorem QSt.row {w : World} {A i j : Nat} {s : Ar} {vn vf : Value} {q : Qu} {L : List Nat} {d : Nd} (h : QSt w A j s vn vf q L) (hd' : s.nodes[i]? = some d) : ∃ g c, vn = .slice (some ⟨g, 0, none⟩) s.nodes.length c := by
  have hi : i < s.nodes.length := (List.getElem?_eq_some_iff.1 hd').1
  obtain ⟨g, c, e, _⟩ := h.rep.row (by omega)
  exact ⟨g, c, e⟩
/-- What a walk reads of a queue's own block. -/
theorem QSt.own {w : World} {A j : Nat} {s : Ar} {vn vf : Value} {q : Qu} {L : List Nat} (h : QSt w A j s vn vf q L) :
    w.cell? ⟨A, 1, none⟩ = some vn ∧ w.cell? ⟨q.blk, 0, none⟩ = some (.pointer (some ⟨A, 0, none⟩)) ∧ w.cell? ⟨q.blk, 1, none⟩ = some (.int .i64 q.first) ∧ w.cell? ⟨q.blk, 2, none⟩ = some (.int .i64 q.last) ∧
      w.cell? ⟨q.blk, 3, none⟩ = some (.int .i64 q.live) ∧ w.cell? ⟨q.blk, 4, none⟩ = some (.int .i64 q.dead) ∧ A < w.heap.size ∧ q.blk < w.heap.size := by
  have hqb := h.rep.q q (List.mem_of_getElem? h.hq)
  exact ⟨blk_cell h.rep.a 1, blk_cell hqb 0, blk_cell hqb 1, blk_cell hqb 2, blk_cell hqb 3, blk_cell hqb 4, blk_lt h.rep.a, blk_lt hqb⟩

/-! ### next -/
set_option maxHeartbeats 800000 in
set_option maxRecDepth 100000 in
theorem next_any (A j : Nat) (s : Ar) (vn vf : Value) (q : Qu) (L : List Nat) (p : Int) (M : List Nat) (w : World) (h : QSt w A j s vn vf q L) (hM : Lk s.nodes q.blk p M (-1)) :
    Calls Try.prog 119 #[.pointer (some ⟨q.blk, 0, none⟩), .int .i64 (hd M (-1))] w fun e w' => e = .returned (.int .i64 (firstLive s.nodes M)) ∧ w' = w := by
  obtain ⟨hA1, hQ0, hQ1, hQ2, hQ3, hQ4, hAlt, hqlt⟩ := h.own
  have hlen := h.wf.len
  have hroom := h.wf.room
  have H := Lib.hid h
  have HM := Lib.hid hM
  clear h hM hQ1 hQ2 hQ3 hQ4
  go_enter Try.func119, Try.ntmps119
  go_wp2
  go_loopg [1] (M.length) (fun k v wr => ∃ (p : Int) (M' : List Nat), M'.length = k ∧ Hid (Lk s.nodes q.blk p M' (-1)) ∧ Hid (firstLive s.nodes M' = firstLive s.nodes M) ∧ v = .int .i64 (hd M' (-1)) ∧ wr = w)
  case atStart => exact ⟨p, M, rfl, HM, Lib.hid rfl, rfl, rfl⟩
  case round =>
    obtain ⟨p', M', hk, HL, HF, rfl, rfl⟩ := hrel
    cases M' with
    | nil =>
      have hF := HF.out
      simp only [firstLive_nil] at hF
      simp only [hd_nil]
      go_wp2
      go_ret
      exact ⟨ret_int hF, rfl⟩
    | cons i M' =>
      obtain ⟨⟨d, hd1, _, _, _, hd5⟩, hl2⟩ := HL.out
      obtain ⟨g, c, rfl⟩ := H.out.row hd1
      obtain ⟨y, y', hn⟩ := node_of H.out.rep.n H.out.wf.cells hd1
      have hn3 := hn.c3
      have hn6 := hn.c6
      have hi : i < s.nodes.length := (List.getElem?_eq_some_iff.1 hd1).1
      have hgl : g < wr.heap.size := own_lt H.out.rep.n rfl
      have ht : ((i : Int) != -1) = true := by simp
      have hal := alive_at hd1
      have hF := HF.out
      rw [firstLive_cons, hal] at hF
      rw [hd5] at hn6
      have HL2 := Lib.hid hl2
      simp only [hd_cons]
      cases hdd : d.dead with
      | true =>
        rw [hdd] at hn3 hF
        simp only [Bool.not_true, Bool.false_eq_true, if_false] at hF
        have HF2 := Lib.hid hF
        clear hn hd1 hd5 hal hF hl2 hdd
        go_wp2
        go_roundg (M'.length)
        case measure => simp at hk; omega
        case rel => exact ⟨_, M', rfl, HL2, HF2, rfl, rfl⟩
      | false =>
        rw [hdd] at hn3 hF
        simp only [Bool.not_false, if_true] at hF
        have HF2 := Lib.hid hF
        clear hn hd1 hd5 hal hF hl2 hdd
        go_wp2
        go_ret
        exact ⟨ret_int HF2.out, rfl⟩

/-! ### told -/
set_option maxHeartbeats 800000 in
set_option maxRecDepth 100000 in
theorem told_no (b : Nat) (w : World) :
    Calls Try.prog 118 #[.pointer (some ⟨b, 0, none⟩), .int .i64 (-1)] w fun e w' => e = .returned (.tuple #[.agg #[.int .u32 0, .int .u32 0], .bool false]) ∧ Only Nil w w' := by
  go_enter Try.func118, Try.ntmps118
  go_wp2
  refine bodyPost_ret (v := .tuple #[.agg #[.int .u32 0, .int .u32 0], .bool false]) (by simp [results, Try.results118, go_sem]) rfl ⟨rfl, ?_⟩
  exact (Only.refl _ w).alloc _

set_option maxHeartbeats 800000 in
set_option maxRecDepth 100000 in
theorem told_at (A g c i j : Nat) (s : Ar) (vf : Value) (q : Qu) (d : Nd) (w : World) (h : QAt w A g c i j s vf q d) :
    Calls Try.prog 118 #[.pointer (some ⟨q.blk, 0, none⟩), .int .i64 i] w fun e w' => e = .returned (.tuple #[.agg #[.int .u32 i, .int .u32 d.life], .bool true]) ∧ Only Nil w w' := by
  have hi : i < s.nodes.length := (List.getElem?_eq_some_iff.1 h.hd).1
  have hlen := h.wf.len
  have hroom := h.wf.room
  have ht : ((i : Int) == -1) = false := beq_eq_false_iff_ne.2 (by omega)
  obtain ⟨hA1, hQ0, hQ1, hQ2, hQ3, hQ4, hqf, hgf, hAlt, hqlt, hglt⟩ := h.rep.base h.hq
  obtain ⟨y, y', hn⟩ := node_of h.rep.n h.wf.cells h.hd
  have hn1 := hn.c1
  clear hn hQ1 hQ2 hQ3 hQ4 h
  go_enter Try.func118, Try.ntmps118
  go_wp2_with fail
  refine (handle_any A g s.nodes.length c (i : Int) (d.life : Int) _ ?_ (by omega) (by omega) (by omega) ?_ ?_ ?_).mono ?_
  · go_simp
  · go_simp
  · go_simp
  · go_simp
  rintro e w' ⟨rfl, rfl⟩
  go_wp2
  refine bodyPost_ret (v := .tuple #[.agg #[.int .u32 i, .int .u32 d.life], .bool true]) (by simp [results, Try.results118, go_sem]) rfl ⟨rfl, ?_⟩
  exact ((Only.refl _ w).alloc _).alloc _

/-! ### Mark -/
set_option maxHeartbeats 1600000 in
set_option maxRecDepth 100000 in
theorem mark_live (A g c i j : Nat) (s : Ar) (vf : Value) (q : Qu) (d : Nd) (w : World) (h : QAt w A g c i j s vf q d) (ht : d.taken = true) (hin : d.inq = some q.blk) (hdd : d.dead = false) :
    Calls Try.prog 76 #[.pointer (some ⟨q.blk, 0, none⟩), .agg #[.int .u32 i, .int .u32 d.life]] w fun e w' => e = .returned (.int .i64 0) ∧
      ArRep w' A { s with nodes := markN s.nodes i d, qs := s.qs.set j (markQ q) } (.slice (some ⟨g, 0, none⟩) s.nodes.length c) vf ∧ Only (fun x => x = q.blk ∨ x = g) w w' := by
  have hvd := h.wf.cells d (List.mem_of_getElem? h.hd)
  obtain ⟨hl1, hl2, hl3, hl4⟩ := h.lo
  have h0 := h.mk' ((Only.refl Nil w).alloc (.cells #[.int .u32 i, .int .u32 d.life] tH))
  have HH := Lib.hid (here_ok A g c i j s vf q d _ h0 ht hin)
  have H := Lib.hid h
  have Hdd := Lib.hid hdd
  clear h h0 hdd hin
  go_enter Try.func76, Try.ntmps76
  go_wp2_with fail
  refine HH.out.mono ?_
  rintro e w1 ⟨rfl, ho⟩
  have o1 : Only Nil w w1 := ((Only.refl Nil w).alloc _).trans ho (fun _ _ h => h)
  have h1 := H.out.mk' o1
  obtain ⟨y, y', hn⟩ := node_of h1.rep.n h1.wf.cells h1.hd
  have hn3 := hn.c3
  rw [Hdd.out] at hn3
  obtain ⟨hA1, hQ0, hQ1, hQ2, hQ3, hQ4, hqf, hgf, hAlt, hqlt, hglt⟩ := h1.rep.base h1.hq
  obtain ⟨hAq, hqA, hgq, hqg, hgA, hAg⟩ := h1.rep.apartQ h1.hq
  have r1 := h1.rep.setN h1.wf.cells h1.hd (k := 4) (u := .bool true) (d' := { d with dead := true }) (by omega) (set_dead hvd true)
  have r2 := r1.setQ h1.nodup h1.hq 3 (u := .int .i64 (q.live - 1)) (q' := { q with live := q.live - 1 }) rfl rfl
  have r3 := ArRep.setQ' (s := s) r2 h1.nodup h1.hq rfl 4 (u := .int .i64 (q.dead + 1)) (q' := markQ q) rfl rfl
  have R3 := Lib.hid r3
  have O1 := Lib.hid o1
  clear hn r1 r2 r3 ho h1 o1
  go_wp2
  go_ret
  refine ⟨rfl, R3.out, ?_⟩
  exact (((O1.out.mono (fun _ _ h => h.elim)).setCell (p := ⟨g, i * 8 + 4, none⟩) (.inl (.inr rfl)) _).setCell (p := ⟨q.blk, 3, none⟩) (.inl (.inl rfl)) _).setCell (p := ⟨q.blk, 4, none⟩) (.inl (.inl rfl)) _

/-! ### Remove -/
set_option maxHeartbeats 1600000 in
set_option maxRecDepth 100000 in
theorem remove_at (A g c i j : Nat) (s : Ar) (vf : Value) (q : Qu) (d : Nd) (w : World) (h : QAt w A g c i j s vf q d) (ht : d.taken = true) (hin : d.inq = some q.blk) (ha : Nbr s.nodes i d.ahead) (hb : Nbr s.nodes i d.back) (hab : d.ahead = d.back → d.ahead = -1) :
    Calls Try.prog 74 #[.pointer (some ⟨q.blk, 0, none⟩), .agg #[.int .u32 i, .int .u32 d.life]] w fun e w' => e = .returned (.int .i64 0) ∧
      ArRep w' A { s with nodes := outN s.nodes i d, qs := s.qs.set j (outQ q d) } (.slice (some ⟨g, 0, none⟩) s.nodes.length c) vf ∧ Only (fun x => x = q.blk ∨ x = g) w w' := by
  have hi : i < s.nodes.length := (List.getElem?_eq_some_iff.1 h.hd).1
  have hlen := h.wf.len
  have hroom := h.wf.room
  have h0 := h.mk' ((Only.refl Nil w).alloc (.cells #[.int .u32 i, .int .u32 d.life] tH))
  have HH := Lib.hid (here_ok A g c i j s vf q d _ h0 ht hin)
  have HO := Lib.hid (fun W (ho : Only Nil w W) => out_any A g c i j s vf q d W (h.mk' ho) ha hb hab)
  clear h h0 hin ha hb hab
  go_enter Try.func74, Try.ntmps74
  go_wp2_with fail
  refine HH.out.mono ?_
  rintro e w1 ⟨rfl, ho⟩
  have hbx := box_after' ho
  have hB0 := blk_cell hbx 0
  simp only [List.getElem?_toArray, List.getElem?_cons_zero] at hB0
  have hblt := blk_lt hbx
  have o1 : Only Nil w w1 := ((Only.refl Nil w).alloc _).trans ho (fun _ _ h => h)
  have O1 := Lib.hid o1
  clear ho o1 hbx
  go_wp2_with fail
  refine (HO.out _ O1.out).mono ?_
  rintro e w2 ⟨rfl, r2, o2⟩
  have R2 := Lib.hid r2
  have O2 := Lib.hid o2
  clear r2 o2
  go_wp2
  go_ret
  exact ⟨rfl, R2.out, (O1.out.mono (fun _ _ h => h.elim)).trans O2.out (fun _ _ h => h)⟩

/-! ### Live, Dead -/
theorem live_any (A j : Nat) (s : Ar) (vn vf : Value) (q : Qu) (L : List Nat) (w : World) (h : QSt w A j s vn vf q L) :
    Calls Try.prog 88 #[.pointer (some ⟨q.blk, 0, none⟩)] w fun e w' => e = .returned (.int .i64 q.live) ∧ w' = w := by
  obtain ⟨hA1, hQ0, hQ1, hQ2, hQ3, hQ4, hAlt, hqlt⟩ := h.own
  clear h
  go_enter Try.func88, Try.ntmps88
  go_wp2
  go_ret
  exact ⟨rfl, rfl⟩
theorem dead_any (A j : Nat) (s : Ar) (vn vf : Value) (q : Qu) (L : List Nat) (w : World) (h : QSt w A j s vn vf q L) :
    Calls Try.prog 89 #[.pointer (some ⟨q.blk, 0, none⟩)] w fun e w' => e = .returned (.int .i64 q.dead) ∧ w' = w := by
  obtain ⟨hA1, hQ0, hQ1, hQ2, hQ3, hQ4, hAlt, hqlt⟩ := h.own
  clear h
  go_enter Try.func89, Try.ntmps89
  go_wp2
  go_ret
  exact ⟨rfl, rfl⟩
end ArT
end Go.Proofs.Ytnhedhmffgaohaa
