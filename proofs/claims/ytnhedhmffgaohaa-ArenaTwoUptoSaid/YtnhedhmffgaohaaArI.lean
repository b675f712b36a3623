/- The walks of the arena's own functions (New, handle, good, Take, Drop, Get, Set, Len, Free): each call's answer, and the state it leaves. -/
import Derived.Test.YtnhedhmffgaohaaProg
import Derived.Test.YtnhedhmffgaohaaArM
namespace Go.Proofs.Ytnhedhmffgaohaa
open Go.RowKit
namespace ArI
abbrev tA : Nat := 104
abbrev tN : Nat := 106
abbrev tQ : Nat := 111
abbrev tI : Nat := 3
abbrev tH : Nat := 32

theorem cells_len {d : Nd} (h : d.v.length = 1) : d.cells.length = 7 := by simp [Nd.cells, h]

/-- An arena with its queues, in memory. -/
structure ArRep (w : World) (A : Nat) (s : Ar) (vn vf : Value) : Prop where
  a : w.heap[A]? = some (.cells #[.int .i64 s.room, vn, vf] tA (0, 0))
  n : w.ownsRow 0 tN 7 vn s.nodes.length (s.nodes.flatMap Nd.cells)
  f : w.ownsRow 0 tI 1 vf s.free.length (s.free.map fun (i : Nat) => Value.int .i64 (i : Int))
  q : ∀ q ∈ s.qs, w.heap[q.blk]? = some (.cells #[.pointer (some ⟨A, 0, none⟩), .int .i64 q.first, .int .i64 q.last, .int .i64 q.live, .int .i64 q.dead] tQ (0, 0))

/-- The blocks in which it lies. -/
def ArD (A : Nat) (s : Ar) (vn vf : Value) (k : Nat) : Prop := k = A ∨ vn.ownBlock = some k ∨ vf.ownBlock = some k ∨ ∃ q ∈ s.qs, q.blk = k

theorem ArRep.only {S : Nat → Prop} {w w' : World} {A : Nat} {s : Ar} {vn vf : Value} (h : ArRep w A s vn vf) (ho : Only S w w') (hs : ∀ k, ArD A s vn vf k → ¬ S k) : ArRep w' A s vn vf :=
  ⟨ho.blk h.a (hs _ (.inl rfl)), own_only h.n ho fun k hk => hs k (.inr (.inl hk)), own_only h.f ho fun k hk => hs k (.inr (.inr (.inl hk))),
   fun q hq => ho.blk (h.q q hq) (hs _ (.inr (.inr (.inr ⟨q, hq, rfl⟩))))⟩
theorem ArRep.lt {w : World} {A : Nat} {s : Ar} {vn vf : Value} (h : ArRep w A s vn vf) {k : Nat} (hk : ArD A s vn vf k) : k < w.heap.size := by
  rcases hk with rfl | hk | hk | ⟨q, hq, rfl⟩
  · exact blk_lt h.a
  · exact own_lt h.n hk
  · exact own_lt h.f hk
  · exact blk_lt (h.q q hq)

theorem ArRep.apart {S : Nat → Prop} {w w' : World} {A : Nat} {s : Ar} {vn vf : Value} (h : ArRep w A s vn vf) (ho : Only S w w') (hs : ∀ b, S b → ∃ t, Ty w b t ∧ t ≠ tA ∧ t ≠ tN ∧ t ≠ tI ∧ t ≠ tQ) : ArRep w' A s vn vf :=
  ⟨blk_apart h.a ho fun b hb => let ⟨t, h1, h2, _⟩ := hs b hb; ⟨t, h1, h2⟩, own_apart h.n ho fun b hb => let ⟨t, h1, _, h2, _⟩ := hs b hb; ⟨t, h1, h2⟩,
   own_apart h.f ho fun b hb => let ⟨t, h1, _, _, h2, _⟩ := hs b hb; ⟨t, h1, h2⟩, fun q hq => blk_apart (h.q q hq) ho fun b hb => let ⟨t, h1, _, _, _, h2⟩ := hs b hb; ⟨t, h1, h2⟩⟩

/-- The nodes' row, with a place in it. -/
theorem ArRep.row {w : World} {A : Nat} {s : Ar} {vn vf : Value} (h : ArRep w A s vn vf) (hn : 0 < s.nodes.length) : ∃ g c, vn = .slice (some ⟨g, 0, none⟩) s.nodes.length c ∧ g < w.heap.size ∧ s.nodes.length ≤ c ∧ A ≠ g := by
  obtain ⟨g, c, rfl, hg, hc, _⟩ := own_row h.n hn
  exact ⟨g, c, rfl, hg, hc, fun e => own_blk_ne h.n h.a (by decide) (by rw [e]; rfl)⟩

structure NodeAt (w : World) (g i : Nat) (d : Nd) (x : Value) : Prop where
  v : d.v = [x]
  c0 : w.cell? ⟨g, i * 7, none⟩ = some x
  c1 : w.cell? ⟨g, i * 7 + 1, none⟩ = some (.int .u32 (d.life : Int))
  c2 : w.cell? ⟨g, i * 7 + 2, none⟩ = some (.bool d.taken)
  c3 : w.cell? ⟨g, i * 7 + 3, none⟩ = some (.bool d.dead)
  c4 : w.cell? ⟨g, i * 7 + 4, none⟩ = some (qptr d.inq)
  c5 : w.cell? ⟨g, i * 7 + 5, none⟩ = some (.int .i64 d.ahead)
  c6 : w.cell? ⟨g, i * 7 + 6, none⟩ = some (.int .i64 d.back)

theorem node_of {w : World} {g c i : Nat} {nodes : List Nd} {d : Nd} (h : w.ownsRow 0 tN 7 (.slice (some ⟨g, 0, none⟩) nodes.length c) nodes.length (nodes.flatMap Nd.cells))
    (hv : ∀ d ∈ nodes, d.v.length = 1) (hd : nodes[i]? = some d) : ∃ x, NodeAt w g i d x := by
  obtain ⟨x, hx⟩ := List.length_eq_one_iff.1 (hv d (List.mem_of_getElem? hd))
  have hc : ∀ k, k < 7 → ∀ u, d.cells[k]? = some u → w.cell? ⟨g, i * 7 + k, none⟩ = some u := fun k hk u hu =>
    own_cell h (by rw [lay_get (fun a ha => cells_len (hv a ha)) hd hk]; exact hu)
  refine ⟨x, hx, hc 0 (by omega) _ ?_, hc 1 (by omega) _ ?_, hc 2 (by omega) _ ?_, hc 3 (by omega) _ ?_, hc 4 (by omega) _ ?_, hc 5 (by omega) _ ?_, hc 6 (by omega) _ ?_⟩ <;> simp [Nd.cells, hx]

/-! ### handle -/
theorem handle_any (A N len cap : Nat) (i l : Int) (w : World) (hA : w.cell? ⟨A, 1, none⟩ = some (.slice (some ⟨N,0,none⟩) len cap))
  (h0 : 0 ≤ i) (hl : i < len) (hlen : len ≤ 65536) (hn : w.cell? ⟨N, i.toNat * 7 + 1, none⟩ = some (.int .u32 l)) (hsz : A < w.heap.size) (hsz2 : N < w.heap.size) :
    Calls Try.prog 53 #[.pointer (some ⟨A,0,none⟩), .int .i64 i] w fun e w' => e = .returned (.agg #[.int .u32 i, .int .u32 l]) ∧ w' = w.alloc (Obj.cells #[.int .u32 i, .int .u32 l] tH) := by
  go_enter Try.func53, Try.ntmps53
  go_wp2
  refine bodyPost_ret (v := .agg #[.int .u32 i, .int .u32 l]) (by simp [results, Try.results53, go_sem]) rfl ⟨rfl, rfl⟩

/-! ### Take -/
set_option maxHeartbeats 400000 in
set_option maxRecDepth 100000 in
theorem take1 (A : Nat) (s : Ar) (vn vf : Value) (x : Int) (k : Nat) (d : Nd) (fr : List Nat) (w : World) (hr : ArRep w A s vn vf) (hw : s.wf 1) (hfr : s.free = fr ++ [k]) (hd : s.nodes[k]? = some d) :
    Calls Try.prog 11 #[.pointer (some ⟨A,0,none⟩), .int .i64 x] w fun e w' => e = .returned (.tuple #[.agg #[.int .u32 k, .int .u32 ((d.life + 1 : Nat) % 4294967296)], .int .i64 0]) ∧
      ∃ vf', ArRep w' A { s with free := fr, nodes := s.nodes.set k (d.take [.int .i64 x]) } vn vf' ∧ vf'.ownBlock = vf.ownBlock ∧ Only (fun b => b = A ∨ vn.ownBlock = some b) w w' := by
  have hk : k < s.nodes.length := (List.getElem?_eq_some_iff.1 hd).1
  have hlen := hw.len
  have hroom := hw.room
  obtain ⟨N, cap, rfl, hN, hcap, hAN⟩ := hr.row (by omega)
  have hflen : s.free.length = fr.length + 1 := by rw [hfr]; simp
  have hfl := hw.flen
  have hfrow := hr.f
  rw [hflen] at hfrow hfl
  obtain ⟨F, fc, rfl, hF, hfc, hfc'⟩ := own_row hfrow (by omega)
  obtain ⟨y, hn⟩ := node_of hr.n hw.cells hd
  have hnf : ∀ o, w.frozen? ⟨N, o, none⟩ = false := fun o => hr.n.frozenAt o
  have hFc : w.cell? ⟨F, fr.length, none⟩ = some (.int .i64 k) := own_cell hfrow (by rw [hfr]; simp)
  have hA0 := blk_cell hr.a 0
  have hA1 := blk_cell hr.a 1
  have hA2 := blk_cell hr.a 2
  have hAf := blk_frozen hr.a 2
  have hAlt := blk_lt hr.a
  simp only [List.getElem?_toArray, List.getElem?_cons_zero, List.getElem?_cons_succ] at hA0 hA1 hA2
  have hn0 := hn.c0
  have hn1 := hn.c1
  have hn2 := hn.c2
  have hn3 := hn.c3
  have hNA := hAN.symm
  have hlife := hw.life d (List.mem_of_getElem? hd)
  go_enter Try.func11, Try.ntmps11
  go_wp2_with fail
  refine (handle_any A N s.nodes.length cap (k : Int) ((d.life + 1 : Int) % 4294967296) _ ?_ (by omega) (by omega) (by omega) ?_ ?_ ?_).mono ?_
  · go_simp
  · go_simp
  · go_simp
  · go_simp
  rintro e w' ⟨rfl, rfl⟩
  go_wp2
  refine bodyPost_ret (v := .tuple #[.agg #[.int .u32 k, .int .u32 ((d.life + 1 : Int) % 4294967296)], .int .i64 0]) (by simp [results, Try.results11, go_sem]) rfl ⟨?_, ?_⟩
  · simp
  have hlay := lay_sets (enc := Nd.cells) (m := 7) (fun a ha => cells_len (hw.cells a ha)) hd [(0, .int .i64 x), (2, .bool true), (3, .bool false), (1, .int .u32 ((d.life + 1 : Int) % 4294967296))] (by simp) (y := d.take [.int .i64 x])
    (by simp [Nd.cells, Nd.take, hn.v])
  simp only [List.foldl_cons, List.foldl_nil, Nat.add_zero] at hlay
  have hFA : F ≠ A := ob_ne' (own_blk_ne hfrow hr.a (by decide))
  have hFN : F ≠ N := ob_ne' (own_own_ne hr.n hfrow (by decide) rfl)
  have hcut := own_cut hfrow (m := fr.length) (by omega) (by omega)
  rw [Nat.mul_one, hfr, List.map_append, List.take_left' (by simp)] at hcut
  refine ⟨.slice (some ⟨F, 0, none⟩) fr.length fc, ⟨?_, ?_, ?_, ?_⟩, rfl, ?_⟩
  · exact blk_alloc (blk_alloc (blk_far (blk_far (blk_far (blk_far (blk_set hr.a 2 _) hAN _) hAN _) hAN _) hAN _) _) _
  · have h1 := own_set (own_set (own_set (own_set (own_far hr.n (p := ⟨A, 2, none⟩) (ob_ne hNA) (.slice (some ⟨F, 0, none⟩) fr.length fc)) (k * 7) (.int .i64 x)) (k * 7 + 2) (.bool true)) (k * 7 + 3) (.bool false)) (k * 7 + 1) (.int .u32 ((d.life + 1 : Int) % 4294967296))
    rw [hlay] at h1
    simpa using (h1.alloc _).alloc _
  · exact ((own_far (own_far (own_far (own_far (own_far hcut (ob_ne hFA) _) (ob_ne hFN) _) (ob_ne hFN) _) (ob_ne hFN) _) (ob_ne hFN) _).alloc _).alloc _
  · intro q hq
    have h1 := hr.q q hq
    have h2 : q.blk ≠ A := blk_ne h1 hr.a (by decide)
    have h3 : q.blk ≠ N := fun e => own_blk_ne hr.n h1 (by decide) (by rw [e]; rfl)
    exact blk_alloc (blk_alloc (blk_far (blk_far (blk_far (blk_far (blk_far h1 h2 _) h3 _) h3 _) h3 _) h3 _) _) _
  · exact (((((((Only.refl _ _).setCell (.inl (.inl rfl)) _).setCell (.inl (.inr rfl)) _).setCell (.inl (.inr rfl)) _).setCell (.inl (.inr rfl)) _).setCell (.inl (.inr rfl)) _).alloc _).alloc _

set_option maxHeartbeats 400000 in
set_option maxRecDepth 100000 in
theorem take2 (A : Nat) (s : Ar) (vn vf : Value) (x : Int) (w : World) (hr : ArRep w A s vn vf) (hw : s.wf 1) (hfr : s.free = []) (hfull : s.nodes.length = s.room) :
    Calls Try.prog 11 #[.pointer (some ⟨A,0,none⟩), .int .i64 x] w fun e w' => e = .returned (.tuple #[.agg #[.int .u32 0, .int .u32 0], .int .i64 51]) ∧ Only Nil w w' := by
  have hlen := hw.len
  have hroom := hw.room
  have hfrow := hr.f
  rw [hfr] at hfrow
  obtain ⟨F, fc, rfl, hfc⟩ := own_slice hfrow
  obtain ⟨N, nc, rfl, hnc⟩ := own_slice hr.n
  have hA0 := blk_cell hr.a 0
  have hA1 := blk_cell hr.a 1
  have hA2 := blk_cell hr.a 2
  have hAlt := blk_lt hr.a
  simp only [List.getElem?_toArray, List.getElem?_cons_zero, List.getElem?_cons_succ, List.length_nil] at hA0 hA1 hA2
  rw [← hfull] at hA0 hroom
  clear hfull hlen hfr hfrow
  go_enter Try.func11, Try.ntmps11
  go_wp2_with fail
  refine bodyPost_ret (v := .tuple #[.agg #[.int .u32 0, .int .u32 0], .int .i64 51]) (by simp [results, Try.results11, go_sem]) rfl ⟨rfl, ?_⟩
  exact (Only.refl _ _).alloc _

set_option maxHeartbeats 800000 in
set_option maxRecDepth 100000 in
theorem take3 (A : Nat) (s : Ar) (vn vf : Value) (x : Int) (w : World) (hr : ArRep w A s vn vf) (hw : s.wf 1) (hfr : s.free = []) (hroom : s.nodes.length < s.room) :
    Calls Try.prog 11 #[.pointer (some ⟨A,0,none⟩), .int .i64 x] w fun e w' => e = .returned (.tuple #[.agg #[.int .u32 s.nodes.length, .int .u32 1], .int .i64 0]) ∧
      ∃ vn', ArRep w' A { s with nodes := s.nodes ++ [nd0 [.int .i64 x]] } vn' vf ∧ (vn'.ownBlock = vn.ownBlock ∨ ∀ k, vn'.ownBlock = some k → w.heap.size ≤ k) ∧ Only (fun b => b = A ∨ vn.ownBlock = some b) w w' := by
  have hroom' := hw.room
  have hfrow := hr.f
  have hnrow := hr.n
  rw [hfr] at hfrow
  obtain ⟨F, fc, rfl, hfc⟩ := own_slice hfrow
  obtain ⟨N, nc, rfl, hnc⟩ := own_slice hr.n
  have hA0 := blk_cell hr.a 0
  have hA1 := blk_cell hr.a 1
  have hA2 := blk_cell hr.a 2
  have hAf := blk_frozen hr.a 1
  have hAlt := blk_lt hr.a
  simp only [List.getElem?_toArray, List.getElem?_cons_zero, List.getElem?_cons_succ, List.length_nil] at hA0 hA1 hA2
  have ht : (((s.nodes.length : Int)) == (s.room : Int)) = false := by simp; omega
  have info : (Try.prog.info? tN).map (fun i => (i.zero, i.size, i.bytes)) = some (some (.agg #[.int .i64 0, .int .u32 0, .bool false, .bool false, .pointer none, .int .i64 0, .int .i64 0]), 7, 40) := by kernel_rfl
  go_enter Try.func11, Try.ntmps11
  obtain ⟨i0, hi0, hz0, hz1, hz2⟩ := info_parts info
  clear info
  go_wp2_with (at_builtin; (refine wpList_append_lies _ rfl (.tmp 23) (.tmp 25) _ rfl 0 tN i0 _ 7 40 Try.underlying102 hi0 hz0 hz1 hz2 rfl (by omega) (.slice N s.nodes.length nc) s.nodes.length (s.nodes.flatMap Nd.cells) rfl ((hnrow.alloc _).alloc _) ⟨w.heap.size + 1, 0, none⟩ 1 1 [.int .i64 0, .int .u32 0, .bool false, .bool false, .pointer none, .int .i64 0, .int .i64 0] rfl rfl (World.news_of_block (blk_new' _ _ _ (by simp))) (by simp [Value.oneCell']) (by omega) (by unfold maxLen; omega) (by omega) (by omega) _ rfl ?_))
  intro g cap w1 hown hgrow hat hlt
  have hsz1 := hgrow.size
  simp only [World.size_alloc] at hsz1
  have hNA : (Value.slice N s.nodes.length nc).ownBlock ≠ some A := own_blk_ne hnrow hr.a (by decide)
  have ha1 := blk_grown (blk_alloc (blk_alloc hr.a _) _) hgrow hNA
  have hNr : (Value.slice N s.nodes.length nc).ownBlock ≠ some w.heap.size := fun e => by have := own_lt hnrow e; omega
  have hres := blk_grown (blk_alloc (blk_new w (.cells #[.int .u32 0, .int .u32 0] tH)) _) hgrow hNr
  have hgA : g ≠ A := ob_ne' (own_blk_ne hown ha1 (by decide))
  have hgr : g ≠ w.heap.size := ob_ne' (own_blk_ne hown hres (by decide))
  have hlist : s.nodes.flatMap Nd.cells ++ [.int .i64 0, .int .u32 0, .bool false, .bool false, .pointer none, .int .i64 0, .int .i64 0] = (s.nodes ++ [ndz [.int .i64 0]]).flatMap Nd.cells := by simp [Nd.cells, qptr, ndz]
  rw [hlist] at hown
  have hcells : ∀ d ∈ s.nodes ++ [ndz [.int .i64 0]], d.v.length = 1 := by
    intro d hd
    rcases List.mem_append.1 hd with h | h
    · exact hw.cells d h
    · simp at h; subst h; rfl
  have hat0 : (s.nodes ++ [ndz [.int .i64 0]])[s.nodes.length]? = some (ndz [.int .i64 0]) := by simp
  have hwl : (s.nodes ++ [ndz [.int .i64 0]]).length = s.nodes.length + 1 := by simp
  have hown' := hown
  rw [← hwl] at hown'
  obtain ⟨y, hn⟩ := node_of hown' hcells hat0
  have hnf : ∀ o, w1.frozen? ⟨g, o, none⟩ = false := fun o => hown.frozenAt o
  have hB0 := blk_cell ha1 0
  have hB1 := blk_cell ha1 1
  have hBf := blk_frozen ha1 1
  have hR0 := blk_cell hres 0
  have hR1 := blk_cell hres 1
  have hRf0 := blk_frozen hres 0
  have hRf1 := blk_frozen hres 1
  have hBlt := blk_lt ha1
  simp only [List.getElem?_toArray, List.getElem?_cons_zero, List.getElem?_cons_succ] at hB0 hB1 hR0 hR1
  have hn0 := hn.c0
  have hn1 := hn.c1
  have hn2 := hn.c2
  have hn3 := hn.c3
  simp only [ndz, Int.natCast_zero] at hn1 hn2 hn3
  have hAg := hgA.symm
  have hrg := hgr.symm
  have hAr : A ≠ w.heap.size := by omega
  have hrA := hAr.symm
  have hrlt := blk_lt hres
  clear hA0 hA1 hA2 hAf ht
  go_wp2_with fail
  refine (handle_any A g (s.nodes.length + 1) cap (s.nodes.length : Int) 1 _ ?_ (by omega) (by omega) (by omega) ?_ ?_ ?_).mono ?_
  · go_simp
  · go_simp
  · go_simp
  · go_simp
  rintro e w' ⟨rfl, rfl⟩
  go_wp2
  refine bodyPost_ret (v := .tuple #[.agg #[.int .u32 s.nodes.length, .int .u32 1], .int .i64 0]) (by simp [results, Try.results11, go_sem, hR0, hR1, hrlt]) rfl ⟨rfl, ?_⟩
  have hlay := lay_sets (enc := Nd.cells) (m := 7) (fun a ha => cells_len (hcells a ha)) hat0 [(0, .int .i64 x), (2, .bool true), (3, .bool false), (1, .int .u32 1)] (by simp) (y := nd0 [.int .i64 x])
    (by simp [Nd.cells, ndz, nd0])
  simp only [List.foldl_cons, List.foldl_nil, Nat.add_zero] at hlay
  have hset : (s.nodes ++ [ndz [.int .i64 0]]).set s.nodes.length (nd0 [.int .i64 x]) = s.nodes ++ [nd0 [.int .i64 x]] := by simp
  rw [hset] at hlay
  have hFA : (Value.slice F [].length fc).ownBlock ≠ some A := own_blk_ne hfrow hr.a (by decide)
  have hfrow1 : w1.ownsRow 0 tI 1 (.slice F 0 fc) 0 [] := own_heap ((hfrow.alloc _).alloc _) rfl fun k hk => hgrow.block k (own_lt ((hfrow.alloc _).alloc _) hk) (fun e => own_own_ne hfrow hnrow (by decide) hk e.symm)
  have hFA1 : (Value.slice F 0 fc).ownBlock ≠ some A := own_blk_ne hfrow1 ha1 (by decide)
  have hFg : (Value.slice F 0 fc).ownBlock ≠ some g := own_own_ne hown hfrow1 (by decide) rfl
  have hFr : (Value.slice F 0 fc).ownBlock ≠ some w.heap.size := own_blk_ne hfrow1 hres (by decide)
  refine ⟨.slice (some ⟨g, 0, none⟩) (s.nodes.length + 1) cap, ⟨?_, ?_, ?_, ?_⟩, ?_, ?_⟩
  · exact blk_alloc (blk_far (blk_far (blk_far (blk_far (blk_far (blk_far (blk_set ha1 1 _) hAg _) hAg _) hAg _) hAg _) hAr _) hAr _) _
  · have h1 := own_set (own_set (own_set (own_set (own_far hown (p := ⟨A, 1, none⟩) (ob_ne hgA) (.slice (some ⟨g, 0, none⟩) (s.nodes.length + 1) cap)) (s.nodes.length * 7) (.int .i64 x)) (s.nodes.length * 7 + 2) (.bool true)) (s.nodes.length * 7 + 3) (.bool false)) (s.nodes.length * 7 + 1) (.int .u32 1)
    rw [hlay] at h1
    simpa using ((own_far (own_far h1 (p := ⟨w.heap.size, 0, none⟩) (ob_ne hgr) (.int .u32 s.nodes.length)) (p := ⟨w.heap.size, 1, none⟩) (ob_ne hgr) (.int .u32 1))).alloc _
  · simp only [hfr]
    exact (own_far (own_far (own_far (own_far (own_far (own_far (own_far hfrow1 hFA1 _) hFg _) hFg _) hFg _) hFg _) hFr _) hFr _).alloc _
  · intro q hq
    have h0 := hr.q q hq
    have h1 := blk_grown (blk_alloc (blk_alloc h0 _) _) hgrow (own_blk_ne hnrow h0 (by decide))
    have h2 : q.blk ≠ A := blk_ne h1 ha1 (by decide)
    have h3 : q.blk ≠ g := fun e => own_blk_ne hown h1 (by decide) (by rw [e]; rfl)
    have h4 : q.blk ≠ w.heap.size := blk_ne h1 hres (by decide)
    exact blk_alloc (blk_far (blk_far (blk_far (blk_far (blk_far (blk_far (blk_far h1 h2 _) h3 _) h3 _) h3 _) h3 _) h4 _) h4 _) _
  · rcases hat with h | h
    · exact .inl h.symm
    · right
      intro k hk
      have : g = k := by simpa [Value.ownBlock] using hk
      omega
  · have hg' : (A = A ∨ (Value.slice N s.nodes.length nc).ownBlock = some A) := .inl rfl
    have hgS : ((g = A ∨ (Value.slice N s.nodes.length nc).ownBlock = some g) ∨ w.heap.size ≤ g) := by
      rcases hat with h | h
      · exact .inl (.inr h)
      · right; omega
    refine (((((((((((Only.refl _ w).alloc _).alloc _).grown hgrow (fun k hk _ => .inr hk)).setCell (.inl hg') _).setCell hgS _).setCell hgS _).setCell hgS _).setCell hgS _).setCell (.inr (Nat.le_refl _)) _).setCell (.inr (Nat.le_refl _)) _).alloc _

/-! ### good -/
set_option maxHeartbeats 400000 in
set_option maxRecDepth 100000 in
theorem good_yes (A g c i : Nat) (s : Ar) (vf : Value) (d : Nd) (w : World) (hr : ArRep w A s (.slice (some ⟨g, 0, none⟩) s.nodes.length c) vf) (hw : s.wf 1) (hd : s.nodes[i]? = some d) (ht : d.taken = true) :
    Calls Try.prog 54 #[.pointer (some ⟨A,0,none⟩), .agg #[.int .u32 i, .int .u32 d.life]] w fun e w' => e = .returned (.pointer (some ⟨g, i * 7, none⟩)) ∧ Only Nil w w' := by
  have hi : i < s.nodes.length := (List.getElem?_eq_some_iff.1 hd).1
  have hlen := hw.len
  have hroom := hw.room
  have hc := (own_slice hr.n)
  obtain ⟨y, hn⟩ := node_of hr.n hw.cells hd
  have hn1 := hn.c1
  have hn2 := hn.c2
  rw [ht] at hn2
  have hA1 := blk_cell hr.a 1
  have hAlt := blk_lt hr.a
  have hglt := own_lt hr.n (k := g) rfl
  simp only [List.getElem?_toArray, List.getElem?_cons_zero, List.getElem?_cons_succ] at hA1
  clear hd ht hc
  go_enter Try.func54, Try.ntmps54
  go_wp2
  go_quiet (fail)
  go_wp2
  go_quiet (fail)
  go_wp2
  go_quiet (fail)
  go_wp2
  go_ret
  exact ⟨rfl, ((((Only.refl _ w).alloc _).drewN _).drewN _).drewN _⟩

set_option maxHeartbeats 400000 in
set_option maxRecDepth 100000 in
theorem good_no (A i l : Nat) (s : Ar) (vn vf : Value) (w : World) (hr : ArRep w A s vn vf) (hw : s.wf 1) (hil : i < 4294967296) (hg : s.good i l = false) :
    Calls Try.prog 54 #[.pointer (some ⟨A,0,none⟩), .agg #[.int .u32 i, .int .u32 l]] w fun e w' => e = .returned (.pointer none) ∧ Only Nil w w' := by
  have hlen := hw.len
  have hroom := hw.room
  have hnrow := hr.n
  have hA1 := blk_cell hr.a 1
  have hAlt := blk_lt hr.a
  simp only [List.getElem?_toArray, List.getElem?_cons_zero, List.getElem?_cons_succ] at hA1
  obtain ⟨N, c, rfl, hc⟩ := own_slice hr.n
  by_cases hi : s.nodes.length ≤ i
  · go_enter Try.func54, Try.ntmps54
    go_wp2
    go_quiet (fail)
    go_wp2
    go_ret
    exact ⟨rfl, ((Only.refl _ w).alloc _).drewN _⟩
  · have hi' : i < s.nodes.length := by omega
    obtain ⟨g, c', e, hglt, _, _⟩ := own_row hr.n (by omega)
    injection e with e1 _ e2
    subst e1
    subst e2
    obtain ⟨y, hn⟩ := node_of hr.n hw.cells (List.getElem?_eq_getElem hi')
    have hn1 := hn.c1
    have hn2 := hn.c2
    unfold Ar.good at hg
    rw [List.getElem?_eq_getElem hi'] at hg
    generalize s.nodes[i] = d at hn1 hn2 hg
    clear hn hi hnrow
    simp only at hg
    cases ht : d.taken with
    | false =>
      rw [ht] at hn2
      clear hg ht
      go_enter Try.func54, Try.ntmps54
      go_wp2
      go_quiet (fail)
      go_wp2
      go_quiet (fail)
      go_wp2
      go_quiet (fail)
      go_wp2
      go_ret
      exact ⟨rfl, ((((Only.refl _ w).alloc _).drewN _).drewN _).drewN _⟩
    | true =>
      rw [ht] at hn2 hg
      have hne : ((d.life : Int) != (l : Int)) = true := by simp at hg; simp; omega
      clear hg ht
      go_enter Try.func54, Try.ntmps54
      go_wp2
      go_quiet (fail)
      go_wp2
      go_quiet (fail)
      go_wp2
      go_quiet (fail)
      go_wp2
      go_ret
      exact ⟨rfl, ((((Only.refl _ w).alloc _).drewN _).drewN _).drewN _⟩
end ArI
end Go.Proofs.Ytnhedhmffgaohaa
