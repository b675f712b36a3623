/- The walk of the document's tell. -/
import Derived.Test.YtcnkbhgdcfckoaaNa
set_option linter.unusedVariables false
set_option linter.unusedSimpArgs false
namespace Go.Proofs.Ytcnkbhgdcfckoaa
open Go.RowKit
namespace Ck
abbrev tTd : Nat := 64
abbrev tSe : Nat := 24
def tdRow (b : Bk) (v1 v2 v3 : Value) : Array Value := #[.int .i64 b.cap, .int .i64 b.meet, v1, v2, .int .u64 b.high, .int .u64 b.seq, v3]
theorem one_td (b : Bk) {v1 v2 v3 : Value} (h1 : IsSl v1) (h2 : IsSl v2) (h3 : IsSl v3) : (tdRow b v1 v2 v3).all (·.oneCell') = true := by
  obtain ⟨A1, n1, c1, rfl⟩ := h1
  obtain ⟨A2, n2, c2, rfl⟩ := h2
  obtain ⟨A3, n3, c3, rfl⟩ := h3
  kernel_rfl
theorem infoTd : (Try.prog.info? tTd).map (·.size) = some 7 := by kernel_rfl
theorem infoEvB : (Try.prog.info? tEvt).map (fun i => (i.zero, i.size, i.bytes)) = some (some (.agg zE.row), 13, 104) := by kernel_rfl
theorem ev_flat : ∀ l : List Ev, (l.flatMap Ev.cells).length = l.length * 13
  | [] => rfl
  | r :: l => by rw [List.flatMap_cons, List.length_append, ev_flat l, r.len, List.length_cons]; omega
theorem one_evs (l : List Ev) : ∀ u ∈ l.flatMap Ev.cells, u.oneCell' = true := by
  intro u hu
  obtain ⟨r, _, hr⟩ := List.mem_flatMap.1 hu
  simp only [Ev.cells, List.mem_cons, List.not_mem_nil, or_false] at hr
  rcases hr with rfl | rfl | rfl | rfl | rfl | rfl | rfl | rfl | rfl | rfl | rfl | rfl | rfl <;> rfl
theorem td_cells {w : World} {B : Nat} {b : Bk} {v1 v2 v3 : Value} (h : w.heap[B]? = some (.cells (tdRow b v1 v2 v3) tTd (0, 0))) :
    w.cell? ⟨B, 0, none⟩ = some (.int .i64 b.cap) ∧ w.cell? ⟨B, 1, none⟩ = some (.int .i64 b.meet) ∧ w.cell? ⟨B, 2, none⟩ = some v1 ∧ w.cell? ⟨B, 3, none⟩ = some v2 ∧ w.cell? ⟨B, 4, none⟩ = some (.int .u64 b.high) ∧ w.cell? ⟨B, 5, none⟩ = some (.int .u64 b.seq) ∧ w.cell? ⟨B, 6, none⟩ = some v3 ∧ (∀ k, w.frozen? ⟨B, k, none⟩ = false) ∧ B < w.heap.size :=
  ⟨blk_cell h 0, blk_cell h 1, blk_cell h 2, blk_cell h 3, blk_cell h 4, blk_cell h 5, blk_cell h 6, fun k => blk_frozen h k, blk_lt h⟩
theorem own_empty' (W : World) (T m k : Nat) (hk : k = W.heap.size) : (W.alloc (.cells #[] T)).ownsRow 0 T m (.slice (some ⟨k, 0, none⟩) 0 0) 0 [] := by subst hk; exact own_empty W T m
theorem own_alloc {w : World} {base e size n : Nat} {v : Value} {xs : List Value} (h : w.ownsRow base e size v n xs) (o : Obj) : (w.alloc o).ownsRow base e size v n xs := own_only h ((Only.refl Nil w).alloc o) (fun _ _ h => h)
theorem own_e1 (W : World) (T m : Nat) : (W.alloc (.cells #[] T)).drew.ownsRow 0 T m (.slice (some ⟨W.heap.size, 0, none⟩) 0 0) 0 [] := own_empty W T m
theorem own_e2 (W : World) (T m : Nat) (o : Obj) : ((W.alloc (.cells #[] T)).alloc o).drew.ownsRow 0 T m (.slice (some ⟨W.heap.size, 0, none⟩) 0 0) 0 [] := own_alloc (own_empty W T m) o
theorem own_e3 (W : World) (T m : Nat) (o : Obj) : ((W.alloc o).alloc (.cells #[] T)).drew.ownsRow 0 T m (.slice (some ⟨W.heap.size + 1, 0, none⟩) 0 0) 0 [] := own_empty' _ T m _ (by simp)
/-- An append onto a row that was just made, in a region that draws its order. -/
theorem step_append_new {P : Program} {w : World} {ops : Array Oper} {o : Oper} {a : Act} {K : Act → World → Prop} {Q : Exit → Act → World → Prop} {E : Prop} (hgd : o.guard = none) (s x : Operand) (t : TypeId)
    (ho : o.op = .call { callee := .builtin .append, args := #[s, x], argTypes := #[t, t] })
    (e : TypeId) (i : TypeInfo) (z : Value) (size bytes : Nat) (ht : P.underlying t = some (.slice e)) (hi : P.info? e = some i) (hz : i.zero = some z)
    (hsize : i.size = size) (hby : i.bytes = bytes) (hzs : z.cells.size = size) (hsz : 0 < size)
    (v : Value) (hs : a.eval s = v) (hown : w.ownsRow 0 e size v 0 []) (u : Value) (m : Nat) (news : List Value) (hx : a.eval x = u) (hg : Gives w u m news) (hl : news.length = m * size) (h1 : ∀ u ∈ news, u.oneCell' = true)
    (h63 : m ≤ maxLen) (hbytes : m * bytes ≤ 140737488355328)
    (h : ∀ A c w', w'.ownsRow 0 e size (.slice A m c) m news → w.grownBy w' v.ownBlock → ((Value.slice A m c).ownBlock = v.ownBlock ∨ (Value.slice A m c).ownBlock = some w.heap.size) → K (a.put o.dst (.slice A m c)) w') :
    if Region.wanted o (yielded ops a.tmps) = true then Oper.wp P o a w K Q else E :=
  step_append_any hgd s x t ho 0 e i z size bytes ht hi hz hsize hby hzs hsz v 0 [] hs hown u m news hx hg hl h1 (by omega) (by rw [Nat.zero_add]; exact hbytes) (Nat.zero_le _) (fun A c w' q1 q2 q3 => by
    rw [Nat.zero_add] at q1 q3 ⊢
    exact h A c w' q1 q2 q3)
theorem ob_ge {g n c B : Nat} (h : B ≤ g) : ∀ k, (Value.slice (some ⟨g, 0, none⟩) n c).ownBlock = some k → B ≤ k := fun k hk => by
  have hk' : g = k := Option.some.inj hk
  omega
theorem hat_ge {o v : Option Nat} {s B : Nat} (hat : o = v ∨ o = some s) (h1 : ∀ k, v = some k → B ≤ k) (h2 : B ≤ s) : ∀ k, o = some k → B ≤ k := fun k hk => by
  rcases hat with q | q
  · exact h1 k (q.symm.trans hk)
  · have hk' : s = k := Option.some.inj (q.symm.trans hk)
    omega
theorem some_ne {a b : Nat} (h : a ≠ b) : (some a : Option Nat) ≠ some b := fun q => h (Option.some.inj q)
/-- What stands on the way through tell: the two boxes, the result's variable; nothing old turned. -/
structure TlW (w : World) (T E R : Nat) (rt re rr : Array Value) (W : World) : Prop where
  t : W.heap[T]? = some (.cells rt tTd (0, 0))
  e : W.heap[E]? = some (.cells re tEvt (0, 0))
  r : W.heap[R]? = some (.cells rr tTd (0, 0))
  o : Only Nil w W
section
variable {w W W1 : World} {T E R : Nat} {rt re rr : Array Value}
theorem TlW.drew (h : TlW w T E R rt re rr W) : TlW w T E R rt re rr W.drew := ⟨h.t, h.e, h.r, h.o.drew⟩
theorem TlW.alloc (h : TlW w T E R rt re rr W) (o : Obj) : TlW w T E R rt re rr (W.alloc o) := ⟨blk_alloc h.t o, blk_alloc h.e o, blk_alloc h.r o, h.o.alloc o⟩
theorem TlW.lts (h : TlW w T E R rt re rr W) : T < W.heap.size ∧ E < W.heap.size ∧ R < W.heap.size ∧ w.heap.size ≤ W.heap.size := ⟨blk_lt h.t, blk_lt h.e, blk_lt h.r, h.o.size⟩
theorem TlW.grown (h : TlW w T E R rt re rr W) {row : Option Nat} (hg : W.grownBy W1 row) (B : Nat) (hB : T < B ∧ E < B ∧ R < B ∧ w.heap.size ≤ B) (hr : ∀ k, row = some k → B ≤ k) : TlW w T E R rt re rr W1 :=
  ⟨blk_grown h.t hg (fun q => by have := hr _ q; omega), blk_grown h.e hg (fun q => by have := hr _ q; omega), blk_grown h.r hg (fun q => by have := hr _ q; omega), h.o.grown hg (fun k hk hlt => by have := hr k hk; omega)⟩
end
/-- A block that holds one event gives it. -/
theorem gives_ev {w : World} {k : Nat} {e : Ev} (h : w.heap[k]? = some (.cells e.row tEvt (0, 0))) : Gives w (.slice (some ⟨k, 0, none⟩) 1 1) 1 e.cells :=
  ⟨_, _, rfl, fun _ => ⟨_, rfl, fun j u hu => by
    rw [Addr.add_lit, Nat.zero_add, blk_cell h]
    simpa [Ev.row, Ev.cells] using hu⟩⟩
theorem evt_cells {W : World} {S : Nat} {e : Ev} (h : W.heap[S]? = some (.cells e.row tEvt (0, 0))) :
    W.cell? ⟨S, 0, none⟩ = some (.int .u64 e.seq) ∧ W.cell? ⟨S, 1, none⟩ = some (.int .i64 e.kind) ∧ W.cell? ⟨S, 2, none⟩ = some (.int .u64 e.id) ∧ W.cell? ⟨S, 3, none⟩ = some (.int .u64 e.other) ∧ W.cell? ⟨S, 4, none⟩ = some (.int .u64 e.target) ∧
    W.cell? ⟨S, 5, none⟩ = some (.int .u32 e.mem) ∧ W.cell? ⟨S, 6, none⟩ = some (.int .i64 e.side) ∧ W.cell? ⟨S, 7, none⟩ = some (.int .i64 e.typ) ∧ W.cell? ⟨S, 8, none⟩ = some (.int .i64 e.price) ∧ W.cell? ⟨S, 9, none⟩ = some (.int .u64 e.qty) ∧
    W.cell? ⟨S, 10, none⟩ = some (.int .u64 e.peak) ∧ W.cell? ⟨S, 11, none⟩ = some (.int .i64 e.reason) ∧ W.cell? ⟨S, 12, none⟩ = some (.int .i64 e.code) ∧ (∀ k, W.frozen? ⟨S, k, none⟩ = false) ∧ S < W.heap.size :=
  ⟨blk_cell h 0, blk_cell h 1, blk_cell h 2, blk_cell h 3, blk_cell h 4, blk_cell h 5, blk_cell h 6, blk_cell h 7, blk_cell h 8, blk_cell h 9, blk_cell h 10, blk_cell h 11, blk_cell h 12, fun k => blk_frozen h k, blk_lt h⟩
theorem laysTd : Lays tTd (tdRow ⟨0, 0, [], [], 0, 0⟩ (.slice none 0 0) (.slice none 0 0) (.slice none 0 0)) := fun W => by kernel_rfl
set_option maxHeartbeats 3200000 in
set_option maxRecDepth 100000 in
theorem tell_any (b : Bk) (l : List Ev) (e : Ev) (v1 v2 v3 : Value) (w : World) (h1 : IsSl v1) (h2 : IsSl v2) (h3 : LE w v3 l) (hl : l.length ≤ 200000000000) (hq : 0 ≤ b.seq ∧ b.seq < 18446744073709551616) :
    Calls Try.prog 25 #[.agg (tdRow b v1 v2 v3), .agg e.row] w fun r w' => (∃ v3', r = .returned (.agg (tdRow (tell (b, l) e).1 v1 v2 v3')) ∧ LE w' v3' (tell (b, l) e).2) ∧ Only Nil w w' := by
  obtain ⟨A3, c3, rfl, hc3, _⟩ := h3.sl
  obtain ⟨i0, hi0, hz0, hz1, hz2⟩ := info_parts infoEvB
  have H3 := Lib.hid h3
  have HT0 : Hid ((((w.alloc (.cells (tdRow b v1 v2 (.slice A3 l.length c3)) tTd)).alloc (.cells e.row tEvt)).alloc (.cells (tdRow ⟨0, 0, [], [], 0, 0⟩ (.slice none 0 0) (.slice none 0 0) (.slice none 0 0)) tTd)).heap[w.heap.size]? = some (.cells (tdRow b v1 v2 (.slice A3 l.length c3)) tTd (0, 0))) := Lib.hid (blk_alloc (blk_alloc (blk_new _ _) _) _)
  have HE0 : Hid ((((w.alloc (.cells (tdRow b v1 v2 (.slice A3 l.length c3)) tTd)).alloc (.cells e.row tEvt)).alloc (.cells (tdRow ⟨0, 0, [], [], 0, 0⟩ (.slice none 0 0) (.slice none 0 0) (.slice none 0 0)) tTd)).heap[w.heap.size + 1]? = some (.cells e.row tEvt (0, 0))) := Lib.hid (blk_alloc (blk_new' _ _ _ (by simp)) _)
  have HR0 : Hid ((((w.alloc (.cells (tdRow b v1 v2 (.slice A3 l.length c3)) tTd)).alloc (.cells e.row tEvt)).alloc (.cells (tdRow ⟨0, 0, [], [], 0, 0⟩ (.slice none 0 0) (.slice none 0 0) (.slice none 0 0)) tTd)).heap[w.heap.size + 2]? = some (.cells (tdRow ⟨0, 0, [], [], 0, 0⟩ (.slice none 0 0) (.slice none 0 0) (.slice none 0 0)) tTd (0, 0))) := Lib.hid (blk_new' _ _ _ (by simp))
  have HO0 := Lib.hid ((((Only.refl Nil w).alloc (.cells (tdRow b v1 v2 (.slice A3 l.length c3)) tTd)).alloc (.cells e.row tEvt)).alloc (.cells (tdRow ⟨0, 0, [], [], 0, 0⟩ (.slice none 0 0) (.slice none 0 0) (.slice none 0 0)) tTd))
  clear h3
  go_enter Try.func25, Try.ntmps25
  unfold tdRow Ev.row
  go_upto_region 1 with fail
  generalize hW : World.alloc (World.alloc (World.alloc w _) _) _ = W0
  have hW' : (((w.alloc (.cells (tdRow b v1 v2 (.slice A3 l.length c3)) tTd)).alloc (.cells e.row tEvt)).alloc (.cells (tdRow ⟨0, 0, [], [], 0, 0⟩ (.slice none 0 0) (.slice none 0 0) (.slice none 0 0)) tTd)) = W0 := hW
  rw [hW'] at HT0 HE0 HR0 HO0
  clear hW hW'
  obtain ⟨b0, b1, b2, b3, b4, b5, b6, bf, bl⟩ := td_cells HT0.out
  obtain ⟨e0, e1, e2, e3, e4, e5, e6, e7, e8, e9, e10, e11, e12, ef, el⟩ := evt_cells HE0.out
  go_upto_region 2 with fail
  generalize hW : World.setCell W0 _ _ = W1
  have hW' : W0.setCell ⟨w.heap.size, 5, none⟩ (.int .u64 (IntKind.u64.wrap (b.seq + 1))) = W1 := hW
  have hne1 : w.heap.size + 1 ≠ w.heap.size := by omega
  have hne2 : w.heap.size + 2 ≠ w.heap.size := by omega
  have hwr : IntKind.u64.wrap (b.seq + 1) = wrapU (b.seq + 1) := by rw [IntKind.wrap_u64]; rfl
  have HT1 : Hid (W1.heap[w.heap.size]? = some (.cells (tdRow { b with seq := wrapU (b.seq + 1) } v1 v2 (.slice A3 l.length c3)) tTd (0, 0))) := Lib.hid (by rw [← hW', hwr]; exact blk_set HT0.out 5 _)
  have HE1 : Hid (W1.heap[w.heap.size + 1]? = some (.cells e.row tEvt (0, 0))) := Lib.hid (by rw [← hW']; exact blk_far HE0.out hne1 _)
  have HR1 : Hid (W1.heap[w.heap.size + 2]? = some (.cells (tdRow ⟨0, 0, [], [], 0, 0⟩ (.slice none 0 0) (.slice none 0 0) (.slice none 0 0)) tTd (0, 0))) := Lib.hid (by rw [← hW']; exact blk_far HR0.out hne2 _)
  have HO1 : Hid (Only Nil w W1) := Lib.hid (by
    rw [← hW']
    have : Only (fun k => k = w.heap.size) w (W0.setCell ⟨w.heap.size, 5, none⟩ (.int .u64 (IntKind.u64.wrap (b.seq + 1)))) := (HO0.out.mono (T := fun k => k = w.heap.size) (fun _ _ h => h.elim)).setCell (p := ⟨w.heap.size, 5, none⟩) (.inl rfl) _
    exact this.mono (fun k hk q => by omega))
  clear hW hW' hne1 hne2 hwr HT0 HE0 HR0 HO0 b0 b1 b2 b3 b4 b5 b6 bf bl e0 e1 e2 e3 e4 e5 e6 e7 e8 e9 e10 e11 e12 ef el
  obtain ⟨b0, b1, b2, b3, b4, b5, b6, bf, bl⟩ := td_cells HT1.out
  obtain ⟨e0, e1, e2, e3, e4, e5, e6, e7, e8, e9, e10, e11, e12, ef, el⟩ := evt_cells HE1.out
  simp only at b5
  have hwne : w.heap.size ≠ w.heap.size + 1 := by omega
  have hre : ({ e with seq := wrapU (b.seq + 1) } : Ev).row = (e.row).setIfInBounds 0 (.int .u64 (wrapU (b.seq + 1))) := rfl
  have HRE := Lib.hid hre
  clear hre
  go_upto_region 3 with fail
  generalize hW : World.setCell W1 _ _ = W2
  have hW' : W1.setCell ⟨w.heap.size + 1, 0, none⟩ (.int .u64 (wrapU (b.seq + 1))) = W2 := hW
  have HV2 : Hid (TlW w w.heap.size (w.heap.size + 1) (w.heap.size + 2) (tdRow { b with seq := wrapU (b.seq + 1) } v1 v2 (.slice A3 l.length c3)) ({ e with seq := wrapU (b.seq + 1) } : Ev).row (tdRow ⟨0, 0, [], [], 0, 0⟩ (.slice none 0 0) (.slice none 0 0) (.slice none 0 0)) W2) := Lib.hid (by
    have hne1 : w.heap.size ≠ w.heap.size + 1 := by omega
    have hne2 : w.heap.size + 2 ≠ w.heap.size + 1 := by omega
    rw [← hW', HRE.out]
    refine ⟨blk_far HT1.out hne1 _, blk_set HE1.out 0 _, blk_far HR1.out hne2 _, ?_⟩
    have : Only (fun k => k = w.heap.size + 1) w (W1.setCell ⟨w.heap.size + 1, 0, none⟩ (.int .u64 (wrapU (b.seq + 1)))) := (HO1.out.mono (T := fun k => k = w.heap.size + 1) (fun _ _ h => h.elim)).setCell (p := ⟨w.heap.size + 1, 0, none⟩) (.inl rfl) _
    exact this.mono (fun k hk q => by omega))
  clear hW hW' HT1 HE1 HR1 HO1 HRE b0 b1 b2 b3 b4 b5 b6 bf bl e0 e1 e2 e3 e4 e5 e6 e7 e8 e9 e10 e11 e12 ef el hwne
  have HG2 := Lib.hid (fun X (hx : Only Nil w X) => (H3.out.nil hx).gives)
  have HL2 := Lib.hid HV2.out.lts
  have H1 := Lib.hid h1
  have H2 := Lib.hid h2
  have HTl : Hid (tell (b, l) e = ({ b with seq := wrapU (b.seq + 1) }, l ++ [{ e with seq := wrapU (b.seq + 1) }])) := Lib.hid rfl
  generalize ({ e with seq := wrapU (b.seq + 1) } : Ev) = f at *
  generalize ({ b with seq := wrapU (b.seq + 1) } : Bk) = d at *
  clear h1 h2
  go_cut [4] from 5 to 23 (fun v4 wc => v4 = .pointer (some ⟨w.heap.size + 1 + 1, 0, none⟩) ∧ Hid (∃ A c, LE wc (.slice A (l.length + 1) c) (l ++ [f]) ∧ TlW w w.heap.size (w.heap.size + 1) (w.heap.size + 2) (tdRow d v1 v2 (.slice A (l.length + 1) c)) f.row (tdRow ⟨0, 0, [], [], 0, 0⟩ (.slice none 0 0) (.slice none 0 0) (.slice none 0 0)) wc))
  case first =>
    obtain ⟨b0, b1, b2, b3, b4, b5, b6, bf, bl⟩ := td_cells HV2.out.t
    obtain ⟨e0, e1, e2, e3, e4, e5, e6, e7, e8, e9, e10, e11, e12, ef, el⟩ := evt_cells HV2.out.e
    go_region_law (first
      | ((refine step_append_new rfl (.tmp 15) (.tmp 17) tSe rfl tEvt i0 _ 13 104 Try.underlying24 hi0 hz0 hz1 hz2 rfl (by omega) _ rfl (by first | exact own_e1 _ _ _ | exact own_e2 _ _ _ _ | exact own_e3 _ _ _ _) _ l.length (l.flatMap Ev.cells) rfl (by first | exact HG2.out _ (HV2.out.o.alloc _).drew | exact HG2.out _ ((HV2.out.o.alloc _).alloc _).drew) (ev_flat _) (one_evs _) (by unfold maxLen; omega) (by omega) ?_); intro A1 c1 w1 hown1 hgrow1 hat1;
          (have HVa := Lib.hid (TlW.grown (by first | exact (HV2.out.alloc _).drew | exact ((HV2.out.alloc _).alloc _).drew) hgrow1 W2.heap.size HL2.out (ob_ge (by omega))));
          (have HF1 : Hid (∀ k, (Value.slice A1 l.length c1).ownBlock = some k → W2.heap.size ≤ k) := Lib.hid (hat_ge hat1 (ob_ge (by omega)) (by simp only [World.size_alloc, World.drew]; omega)));
          (have Hown : Hid (w1.ownsRow 0 tEvt 13 (.slice A1 l.length c1) l.length (l.flatMap Ev.cells)) := Lib.hid hown1);
          (first
            | (have HB20 := Lib.hid (blk_grown (blk_drew (blk_new' _ (.cells f.row tEvt) (W2.heap.size + 1) (by simp))) hgrow1 (some_ne (a := W2.heap.size) (b := W2.heap.size + 1) (by omega))))
            | (have HB20 := Lib.hid (blk_grown (blk_drew (blk_alloc (blk_new' _ (.cells f.row tEvt) W2.heap.size rfl) _)) hgrow1 (some_ne (a := W2.heap.size + 1) (b := W2.heap.size) (by omega))))
            | (have HB20 := Lib.hid True.intro));
          clear hown1 hgrow1 hat1;
          (obtain ⟨e0', e1', e2', e3', e4', e5', e6', e7', e8', e9', e10', e11', e12', ef', el'⟩ := evt_cells HVa.out.e))
      | ((refine step_append_any rfl (.tmp 18) (.tmp 20) tSe rfl 0 tEvt i0 _ 13 104 Try.underlying24 hi0 hz0 hz1 hz2 rfl (by omega) _ _ _ rfl (by first | exact Hown.out | exact own_alloc Hown.out _) _ 1 f.cells rfl (by first | exact gives_ev (blk_new _ _) | exact gives_ev HB20.out) (by rw [f.len]) (by cases f; simp [Ev.cells, Value.oneCell']) (by unfold maxLen; omega) (by omega) (Nat.zero_le _) ?_); intro A2 c2 w2 hown2 hgrow2 hat2;
          (have HVb := Lib.hid (TlW.grown (by first | exact HVa.out | exact HVa.out.alloc _) hgrow2 W2.heap.size HL2.out HF1.out));
          (have Hown2 := Lib.hid hown2); clear hown2 hgrow2 hat2;
          (obtain ⟨d0, d1, d2, d3, d4, d5, d6, df, dl⟩ := td_cells HVb.out.t)))
    all_goals
      go_wp2
      go_meet
      case rel =>
        refine ⟨rfl, Lib.hid ⟨A2, c2, ?_, ?_⟩⟩
        · have hx : LE w2 (.slice A2 (l.length + 1) c2) (l ++ [f]) := Lst.of_own (base := 0) (by simpa using Hown2.out) (by omega)
          exact hx.only ((Only.refl (fun k => k = w.heap.size) w2).setCell (p := ⟨w.heap.size, 6, none⟩) (.inl rfl) _) (fun k hk => ⟨tTd, hk ▸ blk_ty HVb.out.t, by decide⟩)
        · have hn1 : w.heap.size + 1 ≠ w.heap.size := by omega
          have hn2 : w.heap.size + 2 ≠ w.heap.size := by omega
          refine ⟨blk_set HVb.out.t 6 _, blk_far HVb.out.e hn1 _, blk_far HVb.out.r hn2 _, ?_⟩
          have : Only (fun k => k = w.heap.size) w (w2.setCell ⟨w.heap.size, 6, none⟩ (.slice A2 (l.length + 1) c2)) := (HVb.out.o.mono (T := fun k => k = w.heap.size) (fun _ _ h => h.elim)).setCell (p := ⟨w.heap.size, 6, none⟩) (.inl rfl) _
          exact this.mono (fun k hk q => by omega)
  case rest =>
    obtain ⟨rfl, HC⟩ := hcut
    obtain ⟨A4, c4, hle, hv⟩ := HC.out
    have HLE := Lib.hid hle
    have HV := Lib.hid hv
    clear hle hv HC
    obtain ⟨b0, b1, b2, b3, b4, b5, b6, bf, bl⟩ := td_cells HV.out.t
    go_wp2_with (refine wpList_store_row rfl tTd (.tmp 4) (.tmp 23) rfl _ rfl (tdRow d v1 v2 (.slice A4 (l.length + 1) c4)) (tdRow ⟨0, 0, [], [], 0, 0⟩ (.slice none 0 0) (.slice none 0 0) (.slice none 0 0)) rfl _ HV.out.r infoTd rfl (one_td d H1.out H2.out ⟨_, _, _, rfl⟩) ?_)
    refine bodyPost_ret (results_cell_row rfl _ _ _ _ _ _ _ rfl (blk_setRow HV.out.r (tdRow d v1 v2 (.slice A4 (l.length + 1) c4))) Try.underlying64 rfl infoTd) rfl ?_
    have hsr : ∀ (cs : Array Value), Only (fun k => k = w.heap.size + 2) wc (wc.setRow (w.heap.size + 2) cs) := fun cs => (Only.refl (fun k => k = w.heap.size + 2) wc).setRow (.inl rfl) cs
    rw [HTl.out]
    exact ⟨⟨_, rfl, HLE.out.only (hsr _) (fun k hk => ⟨tTd, hk ▸ blk_ty HV.out.r, by decide⟩)⟩, HV.out.o.setRow (.inr (by omega)) _⟩
end Ck
end Go.Proofs.Ytcnkbhgdcfckoaa
