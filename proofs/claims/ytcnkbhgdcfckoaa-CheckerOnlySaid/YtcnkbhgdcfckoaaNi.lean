/- The walk of the document's whole. -/
import Derived.Test.YtcnkbhgdcfckoaaNh
import Derived.Test.YtcnkbhgdcfckoaaMc
import Derived.Deep.RegionHeld3
import Derived.Deep.RegionLaw
set_option linter.unusedVariables false
set_option linter.unusedSimpArgs false
namespace Go.Proofs.Ytcnkbhgdcfckoaa
open Go.RowKit
namespace Ck
theorem set7_new {W0 W : World} (h : Only Nil W0 W) {g : Nat} (hg : W0.heap.size ≤ g) (u0 u1 u2 u3 u4 u5 u6 : Value) : Only Nil W0 (set7 W g u0 u1 u2 u3 u4 u5 u6) :=
  h.trans (set7_only W g u0 u1 u2 u3 u4 u5 u6) (fun k hk q => by omega)
theorem opair {X W : World} (h : Only Nil X W) : (∀ b o, b < X.heap.size → W.cell? ⟨b, o, none⟩ = X.cell? ⟨b, o, none⟩) ∧ (∀ b o, b < X.heap.size → W.frozen? ⟨b, o, none⟩ = X.frozen? ⟨b, o, none⟩) ∧ (∀ b, b < X.heap.size → W.heap[b]? = X.heap[b]?) ∧ X.heap.size ≤ W.heap.size :=
  ⟨fun b o hb => h.cell (p := ⟨b, o, none⟩) hb (fun q => q), fun b o hb => h.frozen (p := ⟨b, o, none⟩) hb (fun q => q), fun b hb => h.block b hb (fun q => q), h.size⟩
theorem Lst.gete {w : World} {A : Option Addr} {n c i : Nat} {l : List Ev} {r : Ev} (h : LE w (.slice A n c) l) (hr : l[i]? = some r) : ∃ g off, A = some ⟨g, off, none⟩ ∧ n = l.length ∧ i < l.length ∧ g < w.heap.size ∧ ∀ k u, k < 13 → r.cells[k]? = some u → w.cell? ⟨g, off + i * 13 + k, none⟩ = some u := by
  have hi := (List.getElem?_eq_some_iff.1 hr).1
  obtain ⟨g, off, c', cs, h1, h2, h3⟩ := h.row (by intro e; rw [e] at hr; simp at hr)
  injection h1 with e1 e2 _
  exact ⟨g, off, e1, e2, hi, blk_lt h2, fun k u hk hu => by
    rw [blk_cell h2, Nat.add_assoc]
    exact h3 _ _ (by rw [lay_get (fun a _ => a.len) hr hk]; exact hu)⟩
def iv0 : Nat := 8600000000
theorem iv_begin {b : Bk} {o : Co} (hb : OkB b) (hq : 0 ≤ b.seq ∧ b.seq < 18446744073709551616) (hm : b.meet = 0 ∨ b.meet = 1 ∨ b.meet = 2 ∨ b.meet = 3) (h1 : b.buys.length ≤ 100000) (h2 : b.sells.length ≤ 100000) (hs : o.side = 1 ∨ o.side = 2) (hl : 0 ≤ o.left ∧ o.left ≤ 4294967295) (l : List Ev) (hll : l.length ≤ 10) : Iv iv0 100000 100000 (b, l) o := by
  refine ⟨hb, hq, hm, h1, h2, hs, hl, ?_⟩
  have : (sideR b (3 - o.side)).length ≤ 100000 := by
    unfold sideR
    split
    · exact h1
    · split
      · exact h2
      · simp
  show l.length + 2 * (o.left.toNat + (sideR b (3 - o.side)).length) ≤ 8600000000
  omega
theorem build_td (b : Bk) (A1 : Option Addr) (n1 c1 : Nat) (A2 : Option Addr) (n2 c2 : Nat) (W : World) : (Instr.build tTd #[(0, .agg #[.int .i64 b.cap, .int .i64 b.meet, .slice A1 n1 c1, .slice A2 n2 c2, .int .u64 b.high, .int .u64 b.seq])]).run Try.prog W = .ok (.agg #[.int .i64 b.cap, .int .i64 b.meet, .slice A1 n1 c1, .slice A2 n2 c2, .int .u64 b.high, .int .u64 b.seq, .slice none 0 0]) W := by kernel_rfl
/-- What stands behind the first region of whole. -/
structure WhT (w : World) (L : List Ev) (o : Co) (k5 : Nat) (x3 : Value) (W : World) : Prop where
  t : W.cell? ⟨k5, 6, none⟩ = some x3
  lt : k5 < W.heap.size
  le : LE W x3 L
  o : W.heap[w.heap.size + 1]? = some (.cells (coRow o) tCo (0, 0))
  only : Only Nil w W
theorem blk_set7_far {W : World} {g k : Nat} {o : Obj} (h : W.heap[k]? = some o) (hne : k ≠ g) (u0 u1 u2 u3 u4 u5 u6 : Value) : (set7 W g u0 u1 u2 u3 u4 u5 u6).heap[k]? = some o := (set7_only W g u0 u1 u2 u3 u4 u5 u6).blk h hne
theorem le_set7 {W : World} {g : Nat} {T : TypeId} {cs : Array Value} {v : Value} {L : List Ev} (hT : T ≠ tEvt) (hg : W.heap[g]? = some (.cells cs T (0, 0))) (h : LE W v L) (u0 u1 u2 u3 u4 u5 u6 : Value) : LE (set7 W g u0 u1 u2 u3 u4 u5 u6) v L :=
  h.only (set7_only W g u0 u1 u2 u3 u4 u5 u6) (fun k hk => ⟨T, hk ▸ blk_ty hg, hT⟩)
theorem fin1a {w X : World} {L : List Ev} {o : Co} {x3 : Value} (hle : LE X x3 L) (ho : X.heap[w.heap.size + 1]? = some (.cells (coRow o) tCo (0, 0))) (hon : Only Nil w X) (u0 u1 u2 u3 u4 u5 : Value) (Z : Obj) :
    WhT w L o X.heap.size x3 ((X.alloc (.cells #[u0, u1, u2, u3, u4, u5, x3] tTd)).alloc Z) :=
  have h5 := blk_alloc (blk_new X (.cells #[u0, u1, u2, u3, u4, u5, x3] tTd)) Z
  ⟨blk_cell h5 6, blk_lt h5, hle.nil (((Only.refl Nil X).alloc _).alloc _), blk_alloc (blk_alloc ho _) _, (hon.alloc _).alloc _⟩
theorem fin1b {w X : World} {L : List Ev} {o : Co} {x3 : Value} (hle : LE X x3 L) (ho : X.heap[w.heap.size + 1]? = some (.cells (coRow o) tCo (0, 0))) (hon : Only Nil w X) (u0 u1 u2 u3 u4 u5 : Value) (Z : Obj) :
    WhT w L o (X.heap.size + 1) x3 ((X.alloc Z).alloc (.cells #[u0, u1, u2, u3, u4, u5, x3] tTd)) :=
  have h5 := blk_new' (X.alloc Z) (.cells #[u0, u1, u2, u3, u4, u5, x3] tTd) (X.heap.size + 1) (by simp)
  ⟨blk_cell h5 6, blk_lt h5, hle.nil (((Only.refl Nil X).alloc _).alloc _), blk_alloc (blk_alloc ho _) _, (hon.alloc _).alloc _⟩
theorem fin2 {w X : World} {L : List Ev} {o : Co} {x3 : Value} (hle : LE X x3 L) (ho : X.heap[w.heap.size + 1]? = some (.cells (coRow o) tCo (0, 0))) (hon : Only Nil w X) {k5 : Nat} (h5 : X.heap[k5]? = some (.cells td0 tTd (0, 0))) (hk : w.heap.size ≤ k5) (u0 u1 u2 u3 u4 u5 : Value) (Z : Obj) :
    WhT w L o k5 x3 ((set7 X k5 u0 u1 u2 u3 u4 u5 x3).alloc Z) :=
  have hs := set7_only X k5 u0 u1 u2 u3 u4 u5 x3
  have h6 := blk_alloc (set7_blk h5 u0 u1 u2 u3 u4 u5 x3) Z
  ⟨blk_cell h6 6, blk_lt h6, (le_set7 (by decide) h5 hle u0 u1 u2 u3 u4 u5 x3).nil ((Only.refl Nil _).alloc _), blk_alloc (hs.blk ho (fun q => blk_ne ho h5 (by decide) q)) _, (hon.trans hs (fun i hi q => by omega)).alloc _⟩
theorem fin3 {w X : World} {L : List Ev} {o : Co} {x3 : Value} (hle : LE X x3 L) (ho : X.heap[w.heap.size + 1]? = some (.cells (coRow o) tCo (0, 0))) (hon : Only Nil w X) {k6 : Nat} (h6 : X.heap[k6]? = some (.cells (coRow zCo) tCo (0, 0))) (hk : w.heap.size + 2 ≤ k6) (u0 u1 u2 u3 u4 u5 y0 y1 y2 y3 y4 y5 y6 : Value) :
    WhT w L o X.heap.size x3 ((set7 X k6 y0 y1 y2 y3 y4 y5 y6).alloc (.cells #[u0, u1, u2, u3, u4, u5, x3] tTd)) := by
  have hs := set7_only X k6 y0 y1 y2 y3 y4 y5 y6
  have h5 := blk_new' (set7 X k6 y0 y1 y2 y3 y4 y5 y6) (.cells #[u0, u1, u2, u3, u4, u5, x3] tTd) X.heap.size (by simp [World.setCell])
  exact ⟨blk_cell h5 6, blk_lt h5, (le_set7 (by decide) h6 hle y0 y1 y2 y3 y4 y5 y6).nil ((Only.refl Nil _).alloc _), blk_alloc (hs.blk ho (fun q => by omega)) _, (hon.trans hs (fun i hi q => by omega)).alloc _⟩
theorem fin4 {w X : World} {L : List Ev} {o : Co} {x3 : Value} (hle : LE X x3 L) (ho : X.heap[w.heap.size + 1]? = some (.cells (coRow o) tCo (0, 0))) (hon : Only Nil w X) {k5 k6 : Nat} (h5 : X.heap[k5]? = some (.cells td0 tTd (0, 0))) (hk : w.heap.size ≤ k5) (h6 : X.heap[k6]? = some (.cells (coRow zCo) tCo (0, 0))) (hk6 : w.heap.size + 2 ≤ k6) (u0 u1 u2 u3 u4 u5 y0 y1 y2 y3 y4 y5 y6 : Value) :
    WhT w L o k5 x3 (set7 (set7 X k5 u0 u1 u2 u3 u4 u5 x3) k6 y0 y1 y2 y3 y4 y5 y6) := by
  have hs := set7_only X k5 u0 u1 u2 u3 u4 u5 x3
  have b5 := set7_blk h5 u0 u1 u2 u3 u4 u5 x3
  have b6 := hs.blk h6 (fun q => blk_ne h6 h5 (by decide) q)
  have bo := hs.blk ho (fun q => blk_ne ho h5 (by decide) q)
  have hl := le_set7 (by decide) h5 hle u0 u1 u2 u3 u4 u5 x3
  have hn := hon.trans hs (fun i hi q => by omega)
  generalize set7 X k5 u0 u1 u2 u3 u4 u5 x3 = Y at *
  have ht := set7_only Y k6 y0 y1 y2 y3 y4 y5 y6
  have c5 := ht.blk b5 (fun q => blk_ne b5 b6 (by decide) q)
  exact ⟨blk_cell c5 6, blk_lt c5, le_set7 (by decide) b6 hl y0 y1 y2 y3 y4 y5 y6, ht.blk bo (fun q => by omega), hn.trans ht (fun i hi q => by omega)⟩
theorem WhT.drew {w W : World} {L : List Ev} {o : Co} {k5 : Nat} {x3 : Value} (h : WhT w L o k5 x3 W) : WhT w L o k5 x3 W.drew := ⟨h.t, h.lt, h.le.nil (Only.refl _ _).drew, h.o, h.only.drew⟩
set_option maxHeartbeats 6400000 in
set_option maxRecDepth 100000 in
theorem wholeR_any (b : Bk) (v1 v2 : Value) (o : Co) (w : World) (h1 : LR w v1 b.buys) (h2 : LR w v2 b.sells) (hb : OkB b) (hq : 0 ≤ b.seq ∧ b.seq < 18446744073709551616) (hm : b.meet = 0 ∨ b.meet = 1 ∨ b.meet = 2 ∨ b.meet = 3)
    (hn1 : b.buys.length ≤ 100000) (hn2 : b.sells.length ≤ 100000) (hs : o.side = 1 ∨ o.side = 2) (hl : 0 ≤ o.left ∧ o.left ≤ 4294967295) :
    Calls Try.prog 44 #[.agg (bkRow b v1 v2), .agg (coRow o)] w fun e w' => e = .returned (.bool (wholeR b o)) ∧ Only Nil w w' := by
  have HIv := Lib.hid (iv_begin (o := o) hb hq hm hn1 hn2 hs hl [] (by simp))
  have i1 := h1.isSl
  have i2 := h2.isSl
  have HB0 := Lib.hid (blk_alloc (blk_new w (.cells (bkRow b v1 v2) tBk)) (.cells (coRow o) tCo))
  have HO0 := Lib.hid (blk_new' (w.alloc (.cells (bkRow b v1 v2) tBk)) (.cells (coRow o) tCo) (w.heap.size + 1) (by simp))
  have HN0 := Lib.hid (((Only.refl Nil w).alloc (.cells (bkRow b v1 v2) tBk)).alloc (.cells (coRow o) tCo))
  have HCo := Lib.hid (fun W (ho : Only Nil w W) => copy_any b v1 v2 W (h1.nil ho) (h2.nil ho) (by omega) (by omega))
  have HTr := Lib.hid (fun (x1 x2 : Value) W (q1 : LR W x1 b.buys) (q2 : LR W x2 b.sells) => tradesR_any q1 q2 (Lst.empty (m := 13) (T := tEvt) (enc := Ev.cells) (w := W) none 0 (by omega)) HIv.out (by unfold iv0; omega) ⟨by omega, by omega⟩)
  have HSu := (trades_sum (todoR b o) HIv.out (fun e he => by cases he))
  have HWh : Hid (wholeR b o = decide (sumTrades (tradesR (todoR b o) (b, []) o).1.2 = o.left)) := Lib.hid rfl
  have HLf := Lib.hid (trades_iv (todoR b o) HIv.out)
  obtain ⟨A1, n1, c1, rfl⟩ := i1
  obtain ⟨A2, n2, c2, rfl⟩ := i2
  have hl1 := hl.1
  have hl2 := hl.2
  clear h1 h2 hb hq hm hs hl
  generalize tradesR (todoR b o) (b, []) o = tr at *
  obtain ⟨⟨B, L⟩, oo⟩ := tr
  simp only at HTr HSu HWh HLf
  go_enter Try.func44, Try.ntmps44
  go_upto_region 1 with fail
  generalize hW : World.alloc (World.alloc w _) _ = W0
  have hW' : ((w.alloc (.cells (bkRow b (.slice A1 n1 c1) (.slice A2 n2 c2)) tBk)).alloc (.cells (coRow o) tCo)) = W0 := hW
  rw [hW'] at HB0 HO0 HN0
  clear hW hW'
  go_cut [5, 6] from 9 to 42 (fun v5 v6 wc => ∃ k5 A c, v5 = .pointer (some ⟨k5, 0, none⟩) ∧ Hid (WhT w L o k5 (.slice A L.length c) wc))
  case first =>
    have HSof := Lib.hid (fun X (hx : Only Nil W0 X) => And.intro (And.intro (blk_cellsof (hx.blk HB0.out (fun q => q))) (co_cells (hx.blk HO0.out (fun q => q)))) hx)
    have hsz := blk_lt HO0.out
    have hwz : w.heap.size ≤ W0.heap.size := HN0.out.size
    go_region_held3 (fun w' => ((w'.cell? ⟨w.heap.size, 0, none⟩ = some (.int .i64 b.cap) ∧ w'.cell? ⟨w.heap.size, 1, none⟩ = some (.int .i64 b.meet) ∧ w'.cell? ⟨w.heap.size, 2, none⟩ = some (.slice A1 n1 c1) ∧ w'.cell? ⟨w.heap.size, 3, none⟩ = some (.slice A2 n2 c2) ∧ w'.cell? ⟨w.heap.size, 4, none⟩ = some (.int .u64 b.high) ∧ w'.cell? ⟨w.heap.size, 5, none⟩ = some (.int .u64 b.seq) ∧ (∀ k, w'.frozen? ⟨w.heap.size, k, none⟩ = false) ∧ w.heap.size < w'.heap.size) ∧
        (w'.cell? ⟨w.heap.size + 1, 0, none⟩ = some (.int .u64 o.id) ∧ w'.cell? ⟨w.heap.size + 1, 1, none⟩ = some (.int .u64 o.left) ∧ w'.cell? ⟨w.heap.size + 1, 2, none⟩ = some (.int .u64 o.peak) ∧ w'.cell? ⟨w.heap.size + 1, 3, none⟩ = some (.int .u32 o.mem) ∧ w'.cell? ⟨w.heap.size + 1, 4, none⟩ = some (.int .i64 o.side) ∧ w'.cell? ⟨w.heap.size + 1, 5, none⟩ = some (.int .i64 o.kind) ∧ w'.cell? ⟨w.heap.size + 1, 6, none⟩ = some (.int .i64 o.price) ∧ (∀ k, w'.frozen? ⟨w.heap.size + 1, k, none⟩ = false) ∧ w.heap.size + 1 < w'.heap.size)) ∧ Only Nil W0 w')
      ((refine HSof.out _ ?_; ((repeat (first | (with_reducible refine Only.alloc ?_ _) | (with_reducible refine Only.drew ?_) | (with_reducible refine set7_new ?_ (by first | omega | (simp only [World.size_alloc]; omega)) _ _ _ _ _ _ _))); first | (with_reducible exact hwo) | (with_reducible exact Only.refl _ _))))
      ((first
        | (go_at_call 23; go_split_ands; (refine (HCo.out _ (Only.trans HN0.out (by assumption) (fun _ _ q => q))).mono ?_); rintro e wg1 ⟨⟨x1, x2, rfl, hx1, hx2⟩, hog⟩;
            (have hwo := Only.trans (S := Nil) (by assumption : Only Nil W0 _) hog (fun _ _ q => q));
            
            (have hzw1 : W0.heap.size ≤ wg1.heap.size := hwo.size);
            (try ((have HKaT : Hid (wg1.heap[W0.heap.size]? = some (.cells td0 tTd (0, 0))) := Lib.hid (hog.blk (blk_drew (blk_new W0 _)) (fun q => q))); (obtain ⟨kaT0, kaT1, kaT2, kaT3, kaT4, kaT5, kaT6, kaT7, kaT8⟩ := td_cells HKaT.out)));
            (try ((have HKaT : Hid (wg1.heap[W0.heap.size]? = some (.cells td0 tTd (0, 0))) := Lib.hid (hog.blk (blk_drew (blk_alloc (blk_new W0 _) _)) (fun q => q))); (obtain ⟨kaT0, kaT1, kaT2, kaT3, kaT4, kaT5, kaT6, kaT7, kaT8⟩ := td_cells HKaT.out)));
            (try ((have HKaC : Hid (wg1.heap[W0.heap.size]? = some (.cells (coRow zCo) tCo (0, 0))) := Lib.hid (hog.blk (blk_drew (blk_new W0 _)) (fun q => q))); (obtain ⟨kaC0, kaC1, kaC2, kaC3, kaC4, kaC5, kaC6, kaC7, kaC8⟩ := co_cells HKaC.out)));
            (try ((have HKaC : Hid (wg1.heap[W0.heap.size]? = some (.cells (coRow zCo) tCo (0, 0))) := Lib.hid (hog.blk (blk_drew (blk_alloc (blk_new W0 _) _)) (fun q => q))); (obtain ⟨kaC0, kaC1, kaC2, kaC3, kaC4, kaC5, kaC6, kaC7, kaC8⟩ := co_cells HKaC.out)));
            (try ((have HKbT : Hid (wg1.heap[(W0.heap.size + 1)]? = some (.cells td0 tTd (0, 0))) := Lib.hid (hog.blk (blk_drew (blk_new' (W0.alloc _) _ _ (by simp))) (fun q => q))); (obtain ⟨kbT0, kbT1, kbT2, kbT3, kbT4, kbT5, kbT6, kbT7, kbT8⟩ := td_cells HKbT.out)));
            (try ((have HKbC : Hid (wg1.heap[(W0.heap.size + 1)]? = some (.cells (coRow zCo) tCo (0, 0))) := Lib.hid (hog.blk (blk_drew (blk_new' (W0.alloc _) _ _ (by simp))) (fun q => q))); (obtain ⟨kbC0, kbC1, kbC2, kbC3, kbC4, kbC5, kbC6, kbC7, kbC8⟩ := co_cells HKbC.out)));
            (obtain ⟨X1, m1, d1, rfl⟩ := hx1.isSl); (obtain ⟨X2, m2, d2, rfl⟩ := hx2.isSl);
            (have hbld := build_td b X1 m1 d1 X2 m2 d2); (have HX1 := Lib.hid hx1); (have HX2 := Lib.hid hx2); clear hx1 hx2 hog; unfold bkRow)
        | (go_at_call 45; go_split_ands; (refine (HTr.out _ _ _ (by first | exact HX1.out | exact HX1.out.nil ((Only.refl _ _).alloc _) | exact HX1.out.nil (((Only.refl _ _).alloc _).alloc _)) (by first | exact HX2.out | exact HX2.out.nil ((Only.refl _ _).alloc _) | exact HX2.out.nil (((Only.refl _ _).alloc _).alloc _))).mono ?_); rintro e wg2 ⟨y1, y2, y3, rfl, hy1, hy2, hy3, hog⟩;
            (have hwo := Only.trans (S := Nil) (by assumption : Only Nil W0 _) hog (fun _ _ q => q));
            
            (have hzw2 : W0.heap.size ≤ wg2.heap.size := hwo.size);
            (try ((have HKcT : Hid (wg2.heap[W0.heap.size]? = some (.cells td0 tTd (0, 0))) := Lib.hid (hog.blk (HKaT.out) (fun q => q))); (obtain ⟨kcT0, kcT1, kcT2, kcT3, kcT4, kcT5, kcT6, kcT7, kcT8⟩ := td_cells HKcT.out)));
            (try ((have HKcT : Hid (wg2.heap[W0.heap.size]? = some (.cells td0 tTd (0, 0))) := Lib.hid (hog.blk (blk_alloc HKaT.out _) (fun q => q))); (obtain ⟨kcT0, kcT1, kcT2, kcT3, kcT4, kcT5, kcT6, kcT7, kcT8⟩ := td_cells HKcT.out)));
            (try ((have HKcC : Hid (wg2.heap[W0.heap.size]? = some (.cells (coRow zCo) tCo (0, 0))) := Lib.hid (hog.blk (HKaC.out) (fun q => q))); (obtain ⟨kcC0, kcC1, kcC2, kcC3, kcC4, kcC5, kcC6, kcC7, kcC8⟩ := co_cells HKcC.out)));
            (try ((have HKcC : Hid (wg2.heap[W0.heap.size]? = some (.cells (coRow zCo) tCo (0, 0))) := Lib.hid (hog.blk (blk_alloc HKaC.out _) (fun q => q))); (obtain ⟨kcC0, kcC1, kcC2, kcC3, kcC4, kcC5, kcC6, kcC7, kcC8⟩ := co_cells HKcC.out)));
            (try ((have HKdT : Hid (wg2.heap[(W0.heap.size + 1)]? = some (.cells td0 tTd (0, 0))) := Lib.hid (hog.blk (HKbT.out) (fun q => q))); (obtain ⟨kdT0, kdT1, kdT2, kdT3, kdT4, kdT5, kdT6, kdT7, kdT8⟩ := td_cells HKdT.out)));
            (try ((have HKdC : Hid (wg2.heap[(W0.heap.size + 1)]? = some (.cells (coRow zCo) tCo (0, 0))) := Lib.hid (hog.blk (HKbC.out) (fun q => q))); (obtain ⟨kdC0, kdC1, kdC2, kdC3, kdC4, kdC5, kdC6, kdC7, kdC8⟩ := co_cells HKdC.out)));
            (try ((have HKeT : Hid (wg2.heap[wg1.heap.size]? = some (.cells td0 tTd (0, 0))) := Lib.hid (hog.blk (blk_new wg1 _) (fun q => q))); (obtain ⟨keT0, keT1, keT2, keT3, keT4, keT5, keT6, keT7, keT8⟩ := td_cells HKeT.out)));
            (try ((have HKeT : Hid (wg2.heap[wg1.heap.size]? = some (.cells td0 tTd (0, 0))) := Lib.hid (hog.blk (blk_alloc (blk_new wg1 _) _) (fun q => q))); (obtain ⟨keT0, keT1, keT2, keT3, keT4, keT5, keT6, keT7, keT8⟩ := td_cells HKeT.out)));
            (try ((have HKeC : Hid (wg2.heap[wg1.heap.size]? = some (.cells (coRow zCo) tCo (0, 0))) := Lib.hid (hog.blk (blk_new wg1 _) (fun q => q))); (obtain ⟨keC0, keC1, keC2, keC3, keC4, keC5, keC6, keC7, keC8⟩ := co_cells HKeC.out)));
            (try ((have HKeC : Hid (wg2.heap[wg1.heap.size]? = some (.cells (coRow zCo) tCo (0, 0))) := Lib.hid (hog.blk (blk_alloc (blk_new wg1 _) _) (fun q => q))); (obtain ⟨keC0, keC1, keC2, keC3, keC4, keC5, keC6, keC7, keC8⟩ := co_cells HKeC.out)));
            (try ((have HKfT : Hid (wg2.heap[(wg1.heap.size + 1)]? = some (.cells td0 tTd (0, 0))) := Lib.hid (hog.blk (blk_new' (wg1.alloc _) _ _ (by simp)) (fun q => q))); (obtain ⟨kfT0, kfT1, kfT2, kfT3, kfT4, kfT5, kfT6, kfT7, kfT8⟩ := td_cells HKfT.out)));
            (try ((have HKfC : Hid (wg2.heap[(wg1.heap.size + 1)]? = some (.cells (coRow zCo) tCo (0, 0))) := Lib.hid (hog.blk (blk_new' (wg1.alloc _) _ _ (by simp)) (fun q => q))); (obtain ⟨kfC0, kfC1, kfC2, kfC3, kfC4, kfC5, kfC6, kfC7, kfC8⟩ := co_cells HKfC.out)));
            (obtain ⟨Y1, p1, f1, rfl⟩ := hy1.isSl); (obtain ⟨Y2, p2, f2, rfl⟩ := hy2.isSl); (obtain ⟨Y3, f3, rfl, _⟩ := hy3.sl);
            (have HY3 := Lib.hid hy3); (have HW2 := Lib.hid hwo); clear hy1 hy2 hy3 hog; unfold tdRow coRow)))
    all_goals
      go_wp2
      go_meet
      case rel =>
        have HOb := Lib.hid (hwo.blk HO0.out (fun q => q))
        have HOn := Lib.hid (HN0.out.trans hwo (fun _ _ q => q))
        refine ⟨_, Y3, f3, rfl, Lib.hid ?_⟩
        first
          | (with_reducible exact fin1a HY3.out HOb.out HOn.out _ _ _ _ _ _ _)
          | (with_reducible exact fin1b HY3.out HOb.out HOn.out _ _ _ _ _ _ _)
          | (with_reducible exact fin2 HY3.out HOb.out HOn.out (by first | (with_reducible exact HKcT.out) | (with_reducible exact HKdT.out) | (with_reducible exact HKeT.out) | (with_reducible exact HKfT.out)) (by omega) _ _ _ _ _ _ _)
          | (with_reducible exact fin3 HY3.out HOb.out HOn.out (by first | (with_reducible exact HKcC.out) | (with_reducible exact HKdC.out) | (with_reducible exact HKeC.out) | (with_reducible exact HKfC.out)) (by omega) _ _ _ _ _ _ _ _ _ _ _ _ _)
          | (with_reducible exact fin4 HY3.out HOb.out HOn.out (by first | (with_reducible exact HKcT.out) | (with_reducible exact HKdT.out) | (with_reducible exact HKeT.out) | (with_reducible exact HKfT.out)) (by omega) (by first | (with_reducible exact HKcC.out) | (with_reducible exact HKdC.out) | (with_reducible exact HKeC.out) | (with_reducible exact HKfC.out)) (by omega) _ _ _ _ _ _ _ _ _ _ _ _ _)
  case rest =>
    obtain ⟨k5, A, c, rfl, HT⟩ := hcut
    obtain ⟨HPos, hsum⟩ := HSu
    have HPs := Lib.hid HPos
    have hsu2 : sumTrades L ≤ 4294967295 := by have := HLf.out.left.1; rw [sumT_nil] at hsum; omega
    replace hsum := hsu2
    clear hsu2
    clear HPos HCo HTr HIv
    have hLm : L.length ≤ 9223372036854775807 := by
      obtain ⟨_, _, _, q1, q2⟩ := HT.out.le.sl
      omega
    have t6 := HT.out.t
    have tl := HT.out.lt
    go_wp2
    go_loopg [7, 8] (L.length) (fun m v7 v8 wr => ∃ k : Nat, k ≤ L.length ∧ m = L.length - k ∧ v7 = .int .u64 (sumTrades (L.take k)) ∧ v8 = .int .i64 k ∧ Hid (WhT w L o k5 (.slice A L.length c) wr))
    case atStart => exact ⟨0, by omega, by omega, rfl, rfl, HT⟩
    case round =>
      obtain ⟨k, hk, hm, rfl, rfl, HTk⟩ := hrel
      have HMs := Lib.hid hm
      clear hm t6 tl
      have t6 := HTk.out.t
      have tl := HTk.out.lt
      obtain ⟨o0, o1, o2, o3, o4, o5, o6, of, ol⟩ := co_cells HTk.out.o
      by_cases hlt : k < L.length
      · have hkI : (k : Int) < (L.length : Int) := by omega
        have hx : L[k]? = some L[k] := List.getElem?_eq_getElem hlt
        obtain ⟨g, off, rfl, _, _, lg, ha⟩ := HTk.out.le.gete hx
        have a1 := ha 1 _ (by omega) rfl
        have a9 := ha 9 _ (by omega) rfl
        have hts : L.take (k + 1) = L.take k ++ [L[k]] := List.take_succ_eq_append_getElem hlt
        have hsu : sumTrades (L.take (k + 1)) = sumTrades (L.take k) + (if L[k].kind = 3 then L[k].qty else 0) := by rw [hts, sumT_append, sumT_one]
        obtain ⟨s1, s2⟩ := HPs.out.take k
        obtain ⟨s3, s4⟩ := HPs.out.take (k + 1)
        have HSq := Lib.hid hsu
        generalize L[k] = x at *
        have hqn : x.kind = 3 → 0 ≤ x.qty := by
          intro q
          exact HPs.out x (List.mem_of_getElem? hx) q
        by_cases hk3 : x.kind = 3
        · have e3 : (x.kind == 3) = true := by simp [hk3]
          rw [hsu, if_pos hk3] at s3 s4
          have hS : sumTrades (L.take (k + 1)) = sumTrades (L.take k) + x.qty := by rw [hsu, if_pos hk3]
          have HS := Lib.hid hS
          have hq0 := hqn hk3
          clear ha hx hts hsu hk3 hqn hS HSq
          generalize sumTrades (L.take k) = s at *
          have hs5 : s + x.qty ≤ 4294967295 := by omega
          clear hsum s2 s4
          go_wp2
          go_roundg (L.length - (k + 1))
          case measure => have := HMs.out; omega
          case rel => exact ⟨k + 1, by omega, rfl, by rw [HS.out], by go_num, HTk⟩
        · have e3 : (x.kind == 3) = false := by simp [hk3]
          have HS : Hid (sumTrades (L.take (k + 1)) = sumTrades (L.take k)) := Lib.hid (by rw [hsu, if_neg hk3]; omega)
          clear ha hx hts hsu hk3 hqn HSq s1 s2 s3 s4 hsum
          generalize sumTrades (L.take k) = s at *
          go_wp2
          go_roundg (L.length - (k + 1))
          case measure => have := HMs.out; omega
          case rel => exact ⟨k + 1, by omega, rfl, by rw [HS.out], by go_num, HTk⟩
      · have he : k = L.length := by omega
        subst he
        rw [List.take_length]
        have hkI : ¬ ((L.length : Int) < (L.length : Int)) := by omega
        clear hsum
        generalize sumTrades L = s at *
        cases hq : (s == o.left) with
        | true =>
          have HR : Hid (wholeR b o = true) := Lib.hid (by rw [HWh.out]; simpa using hq)
          go_wp2
          go_ret
          exact ⟨by rw [HR.out]; rfl, HTk.out.only⟩
        | false =>
          have HR : Hid (wholeR b o = false) := Lib.hid (by rw [HWh.out]; simpa using hq)
          go_wp2
          go_ret
          exact ⟨by rw [HR.out]; rfl, HTk.out.only⟩
end Ck
end Go.Proofs.Ytcnkbhgdcfckoaa
namespace Go.Proofs.Ytcnkbhgdcfckoaa
open Go
section
variable {P : Program} {ops : Array Oper} {Q : Exit → Act → World → Prop} {md : Region.Mode} {S : World → Prop} {z : Nat}
/-- In whatever order; behind each operation but number z, S holds. -/
def anyZ (P : Program) (md : Region.Mode) (ops : Array Oper) (Q : Exit → Act → World → Prop) (S : World → Prop) (z : Nat) : Nat → Array Bool → Act → World → Prop
  | 0, listed, a, w => Region.ready md ops listed = [] ∧ Q .normal a w
  | fuel + 1, listed, a, w => (Region.ready md ops listed = [] → Q .normal a w) ∧
    ∀ i ∈ Region.ready md ops listed, wpOp P ops Q i (fun a' w' => (i ≠ z → S w') ∧ anyZ P md ops Q S z fuel (listed.setIfInBounds i true) a' w') a w
theorem any_of_Z : ∀ (fuel : Nat) (listed : Array Bool) (a : Act) (w : World), anyZ P md ops Q S z fuel listed a w → wpAny P md ops Q fuel listed a w
  | 0, _, _, _, h => h
  | fuel + 1, _, _, _, h => ⟨h.1, fun i hi => wpOp_mono (fun a' w' h' => any_of_Z fuel _ a' w' h'.2) (h.2 i hi)⟩
/-- Operation z waits for operation i. -/
def waitsFor (md : Region.Mode) (ops : Array Oper) (z i : Nat) : Bool := match ops[z]? with
  | some oz => oz.after.any (fun e => Region.binds md e && e.on == i)
  | none => false
theorem not_ready_of_waits {listed : Array Bool} {i : Nat} (hw : waitsFor md ops z i = true) (hi : i ∈ Region.ready md ops listed) : z ∉ Region.ready md ops listed := by
  intro hz
  obtain ⟨_, oz, hoz, hall⟩ := mem_ready.1 hz
  unfold waitsFor at hw
  rw [hoz] at hw
  obtain ⟨e, he, hb⟩ := Array.any_eq_true'.1 hw
  simp only [Bool.and_eq_true, beq_iff_eq] at hb
  have h1 := hall e he hb.1
  have h0 := (mem_ready.1 hi).1
  rw [hb.2] at h1
  rcases Nat.lt_or_ge i listed.size with h' | h'
  · simp [h'] at h0 h1; rw [h0] at h1; cases h1
  · simp [Array.getElem?_eq_none h'] at h1
theorem anyZ_first {i : Nat} {oi : Oper} {v : Value} (hi : ops[i]? = some oi) (hsel : ∀ (j : Nat) (o : Oper) cs b, ops[j]? = some o → o.op ≠ .select cs b)
    (hQ : ∀ c a w, Q (.panic c) (a.put oi.dst v) w → Q (.panic c) a w) (hz : i ≠ z) (hwz : waitsFor md ops z i = true) :
    ∀ (fuel : Nat) (listed : Array Bool) (a : Act) (w : World),
      (∀ j oj, ops[j]? = some oj → j ≠ i → listed.getD j true = false → (∀ e ∈ oj.after, Region.binds md e = true → e.on ≠ i) → oi.apart ops oj = true) →
      i ∈ Region.ready md ops listed → YieldsIf P ops S oi v a → S w →
      anyZ P md ops Q S z fuel (listed.setIfInBounds i true) (a.put oi.dst v) w → anyZ P md ops Q S z (fuel + 1) listed a w := by
  intro fuel
  induction fuel with
  | zero =>
    intro listed a w _ hr hy hS H
    refine ⟨fun h => (by rw [h] at hr; cases hr), fun j hj => ?_⟩
    by_cases hji : j = i
    · subst hji; exact hy.wpOp hi hS ⟨fun _ => hS, H⟩
    · have := ready_mono hj hji
      rw [H.1] at this
      cases this
  | succ fuel ih =>
    intro listed a w hfree hr hy hS H
    refine ⟨fun h => (by rw [h] at hr; cases hr), fun j hj => ?_⟩
    by_cases hji : j = i
    · subst hji; exact hy.wpOp hi hS ⟨fun _ => hS, H⟩
    · have hjz : j ≠ z := fun e => not_ready_of_waits hwz hr (e ▸ hj)
      have h1 := H.2 j (ready_mono hj hji)
      obtain ⟨hjun, oj, hoj, hall⟩ := mem_ready.1 hj
      have hnot : ∀ e ∈ oj.after, Region.binds md e = true → e.on ≠ i := fun e he hb heq => by
        have h1 := hall e he hb
        have h0 := (mem_ready.1 hr).1
        rw [heq] at h1
        rcases Nat.lt_or_ge i listed.size with h' | h'
        · simp [h'] at h0 h1; rw [h0] at h1; cases h1
        · simp [Array.getElem?_eq_none h'] at h1
      have h2 := wpOp_putIf hoj (hfree j oj hoj hji hjun hnot) (fun cs b => hsel i oi cs b hi) (fun cs b => hsel j oj cs b hoj) hQ hy h1
      have hfree' : ∀ k ok, ops[k]? = some ok → k ≠ i → (listed.setIfInBounds j true).getD k true = false →
          (∀ e ∈ ok.after, Region.binds md e = true → e.on ≠ i) → oi.apart ops ok = true := fun k ok hk hki hun hno => by
        refine hfree k ok hk hki ?_ hno
        by_cases hjk : j = k
        · subst hjk; exact hjun
        · rw [getD_set_ne true hjk] at hun; exact hun
      refine wpOp_mono (fun a' w' h3 => ⟨h3.2.1, ih (listed.setIfInBounds j true) a' w' hfree' (ready_mono hr (Ne.symm hji)) h3.1 (h3.2.1 hjz) ?_⟩) h2
      rw [Array.setIfInBounds_comm _ _ hji]
      exact h3.2.2
theorem anyZ_take {i : Nat} {oi : Oper} {v : Value} {fuel : Nat} {listed : Array Bool} {a : Act} {w : World} (hi : ops[i]? = some oi) (hz : i ≠ z) (hwz : waitsFor md ops z i = true)
    (hs : Region.noSelect ops = true) (hf : Region.free md ops listed i = true) (hr : (Region.ready md ops listed).contains i = true)
    (hQ : ∀ c a w, Q (.panic c) (a.put oi.dst v) w → Q (.panic c) a w) (hS : S w) (hy : YieldsIf P ops S oi v a)
    (h : anyZ P md ops Q S z fuel (listed.setIfInBounds i true) (a.put oi.dst v) w) : anyZ P md ops Q S z (fuel + 1) listed a w :=
  anyZ_first hi (Region.noSelect_spec hs) hQ hz hwz fuel listed a w (Region.free_spec hi hf) (by simpa using hr) hy hS h
/-- The one operation that may come up now. -/
theorem anyZ_one {i : Nat} {o : Oper} {fuel : Nat} {listed : Array Bool} {a : Act} {w : World} (hr : Region.ready md ops listed = [i]) (ho : ops[i]? = some o)
    (h : ∀ K' : Act → World → Prop, Shut (∀ a w, (i ≠ z → S w) → ((i ≠ z → S w) → anyZ P md ops Q S z fuel (listed.setIfInBounds i true) a w) → K' a w) → if Region.wanted o (yielded ops a.tmps) = true then Oper.wp P o a w K' Q else K' (a.put o.dst undef) w) :
    anyZ P md ops Q S z (fuel + 1) listed a w :=
  ⟨(fun e => by rw [hr] at e; cases e), fun j hj => by
    rw [hr] at hj
    have : j = i := by simpa using hj
    subst this
    exact wpOp_step ho (fun K' hK => h K' (fun a w hS hW => hK a w ⟨hS, hW hS⟩))⟩
theorem anyZ_done {listed : Array Bool} {a : Act} {w : World} (hr : Region.ready md ops listed = []) (h : Q .normal a w) : ∀ fuel, anyZ P md ops Q S z fuel listed a w
  | 0 => ⟨hr, h⟩
  | _ + 1 => ⟨fun _ => h, by rw [hr]; simp⟩
theorem wp_region_Z {id : Nat} {a : Act} {w : World} (S : World → Prop) (z : Nat) (hm : P.follows .mixedOrders = true)
    (h : anyZ P .any ops Q S z ops.size (Array.replicate ops.size false) a w.drew) : (Code.region id ops true).wp P Q a w :=
  wp_region_any hm (any_of_Z _ _ _ _ h)
end
end Go.Proofs.Ytcnkbhgdcfckoaa
namespace Go.Proofs.Ytcnkbhgdcfckoaa
open Go.RowKit
namespace Ck
abbrev tdZ : Array Value := td0
/-- The boxes of what was told (T) and of what comes (O), the result's variable (R); the lists; nothing old has turned. -/
structure CmW (w : World) (T O R : Nat) (b : Bk) (l : List Ev) (v1 v2 v3 : Value) (o : Co) (W : World) : Prop where
  t : W.heap[T]? = some (.cells (tdRow b v1 v2 v3) tTd (0, 0))
  o : W.heap[O]? = some (.cells (coRow o) tCo (0, 0))
  r : W.heap[R]? = some (.cells td0 tTd (0, 0))
  lb : LR W v1 b.buys
  ls : LR W v2 b.sells
  le : LE W v3 l
  only : Only Nil w W
  new : w.heap.size ≤ T ∧ w.heap.size ≤ O ∧ T ≠ R ∧ w.heap.size ≤ R
section
variable {w W W1 : World} {T O R : Nat} {b : Bk} {l : List Ev} {v1 v2 v3 : Value} {o : Co}
theorem CmW.nil (h : CmW w T O R b l v1 v2 v3 o W) (ho : Only Nil W W1) : CmW w T O R b l v1 v2 v3 o W1 :=
  ⟨ho.blk h.t (fun q => q), ho.blk h.o (fun q => q), ho.blk h.r (fun q => q), h.lb.nil ho, h.ls.nil ho, h.le.nil ho, h.only.trans ho (fun _ _ q => q), h.new⟩
theorem CmW.setT (h : CmW w T O R b l v1 v2 v3 o W) {b' : Bk} {l' : List Ev} {v1' v2' v3' : Value} (h1 : LR W v1' b'.buys) (h2 : LR W v2' b'.sells) (h3 : LE W v3' l') : CmW w T O R b' l' v1' v2' v3' o (W.setRow T (tdRow b' v1' v2' v3')) := by
  have hT : ∀ (T1 : Nat), T1 ≠ tTd → ∀ k, (fun k => k = T) k → ∃ t, Ty W k t ∧ t ≠ T1 := fun T1 hT1 k hk => ⟨tTd, hk ▸ blk_ty h.t, fun e => hT1 e.symm⟩
  exact ⟨blk_setRow h.t _, blk_off h.o h.t (by decide) _, blk_setRow_far h.r (fun e => h.new.2.2.1 e.symm) _,
    h1.only (only_row W _) (hT tR (by decide)), h2.only (only_row W _) (hT tR (by decide)), h3.only (only_row W _) (hT tEvt (by decide)), h.only.setRow (.inr h.new.1) _, h.new⟩
theorem CmW.setO (h : CmW w T O R b l v1 v2 v3 o W) (o' : Co) : CmW w T O R b l v1 v2 v3 o' (W.setRow O (coRow o')) := by
  have hT : ∀ (T1 : Nat), T1 ≠ tCo → ∀ k, (fun k => k = O) k → ∃ t, Ty W k t ∧ t ≠ T1 := fun T1 hT1 k hk => ⟨tCo, hk ▸ blk_ty h.o, fun e => hT1 e.symm⟩
  exact ⟨blk_off h.t h.o (by decide) _, blk_setRow h.o _, blk_off h.r h.o (by decide) _,
    h.lb.only (only_row W _) (hT tR (by decide)), h.ls.only (only_row W _) (hT tR (by decide)), h.le.only (only_row W _) (hT tEvt (by decide)), h.only.setRow (.inr h.new.2.1) _, h.new⟩
/-- What a function that hands back what was told leaves. -/
def TdPost (t : Td) (w : World) (e : Ending) (w' : World) : Prop :=
  ∃ v1 v2 v3, e = .returned (.agg (tdRow t.1 v1 v2 v3)) ∧ LR w' v1 t.1.buys ∧ LR w' v2 t.1.sells ∧ LE w' v3 t.2 ∧ Only Nil w w'
/-- The end: the result is stored. -/
theorem CmW.ret (h : CmW w T O R b l v1 v2 v3 o W) {t : Td} {x1 x2 x3 : Value} (h1 : LR W x1 t.1.buys) (h2 : LR W x2 t.1.sells) (h3 : LE W x3 t.2) : (W.setRow R (tdRow t.1 x1 x2 x3)).heap[R]? = some (.cells (tdRow t.1 x1 x2 x3) tTd (0, 0)) ∧ TdPost t w (.returned (.agg (tdRow t.1 x1 x2 x3))) (W.setRow R (tdRow t.1 x1 x2 x3)) := by
  have hT : ∀ (T1 : Nat), T1 ≠ tTd → ∀ k, (fun k => k = R) k → ∃ t, Ty W k t ∧ t ≠ T1 := fun T1 hT1 k hk => ⟨tTd, hk ▸ blk_ty h.r, fun e => hT1 e.symm⟩
  exact ⟨blk_setRow h.r _, x1, x2, x3, rfl, h1.only (only_row W _) (hT tR (by decide)), h2.only (only_row W _) (hT tR (by decide)), h3.only (only_row W _) (hT tEvt (by decide)), h.only.setRow (.inr h.new.2.2.2) _⟩
end
theorem cm_begin {b : Bk} {l : List Ev} {v1 v2 v3 : Value} {o : Co} {w : World} (h1 : LR w v1 b.buys) (h2 : LR w v2 b.sells) (h3 : LE w v3 l) :
    CmW w w.heap.size (w.heap.size + 1) (w.heap.size + 1 + 1) b l v1 v2 v3 o (((w.alloc (.cells (tdRow b v1 v2 v3) tTd)).alloc (.cells (coRow o) tCo)).alloc (.cells td0 tTd)) := by
  have ho := (((Only.refl Nil w).alloc (.cells (tdRow b v1 v2 v3) tTd)).alloc (.cells (coRow o) tCo)).alloc (.cells td0 tTd)
  exact ⟨blk_alloc (blk_alloc (blk_new _ _) _) _, blk_alloc (blk_new' _ _ _ (by simp)) _, blk_new' _ _ _ (by simp), h1.nil ho, h2.nil ho, h3.nil ho, ho, ⟨by omega, by omega, by omega, by omega⟩⟩
theorem tellR_any (b : Bk) (l : List Ev) (e : Ev) (v1 v2 v3 : Value) (w : World) (h1 : LR w v1 b.buys) (h2 : LR w v2 b.sells) (h3 : LE w v3 l) (hl : l.length ≤ 200000000000) (hq : 0 ≤ b.seq ∧ b.seq < 18446744073709551616) :
    Calls Try.prog 25 #[.agg (tdRow b v1 v2 v3), .agg e.row] w (TdPost (tell (b, l) e) w) :=
  (tell_any b l e v1 v2 v3 w h1.isSl h2.isSl h3 hl hq).mono fun r w' ⟨⟨v3', q1, q2⟩, ho⟩ => ⟨v1, v2, v3', q1, h1.nil ho, h2.nil ho, q2, ho⟩
theorem retRow {fn : Func} {p : Tmp} (h : fn.results = #[.cell p tTd]) (tmps : Array Value) (w : World) (g : Nat) (cs : Array Value) (hp : tmps.getD p undef = .pointer (some ⟨g, 0, none⟩)) (hg : w.heap[g]? = some (.cells cs tTd (0, 0))) (hi : cs.size = 7) : (results fn tmps).run Try.prog w = .ok (.agg cs) w :=
  results_cell_row h tmps w g tTd cs (0, 0) _ hp hg Try.underlying64 rfl (by rw [hi]; exact infoTd)
set_option maxHeartbeats 1600000 in
set_option maxRecDepth 100000 in
theorem comes_fill (b : Bk) (l : List Ev) (v1 v2 v3 : Value) (o : Co) (w : World) (h1 : LR w v1 b.buys) (h2 : LR w v2 b.sells) (h3 : LE w v3 l) (hi : Iv iv0 100000 100000 (b, l) o) (hk : o.kind = 4) (hw : wholeR b o = false) :
    Calls Try.prog 30 #[.agg (tdRow b v1 v2 v3), .agg (coRow o)] w (TdPost (comesR (b, l) o) w) := by
  have HE : Hid (comesR (b, l) o = tell (b, l) (evCancel o.id o.left 4)) := Lib.hid (by unfold comesR; rw [if_pos ⟨hk, hw⟩])
  have HT := Lib.hid (fun W (q1 : LR W v1 b.buys) (q2 : LR W v2 b.sells) (q3 : LE W v3 l) => tellR_any b l (evCancel o.id o.left 4) v1 v2 v3 W q1 q2 q3 (Nat.le_trans hi.len (by unfold iv0; omega)) hi.seq)
  have hk1 : (o.kind == 4) = true := by simp [hk]
  have i1 := h1.isSl
  have i2 := h2.isSl
  have i3 := h3.isSl
  have HV0 := Lib.hid (cm_begin (o := o) h1 h2 h3)
  have HI := Lib.hid hi
  have hlf := hi.left.2
  have hlf0 := hi.left.1
  have HSd := Lib.hid hi.side
  have HWh := Lib.hid (fun W (q1 : LR W v1 b.buys) (q2 : LR W v2 b.sells) => wholeR_any b v1 v2 o W q1 q2 hi.ok hi.seq hi.meet hi.nb hi.ns hi.side hi.left)
  obtain ⟨A1, n1, c1, rfl⟩ := i1
  obtain ⟨A2, n2, c2, rfl⟩ := i2
  obtain ⟨A3, n3, c3, rfl⟩ := i3
  clear h1 h2 h3 hi
  rw [hw] at HWh
  clear hw hk
  go_enter Try.func30, Try.ntmps30
  go_upto_region 1 with fail
  generalize hW : World.alloc (World.alloc (World.alloc w _) _) _ = W0
  have hW' : (((w.alloc (.cells (tdRow b (.slice A1 n1 c1) (.slice A2 n2 c2) (.slice A3 n3 c3)) tTd)).alloc (.cells (coRow o) tCo)).alloc (.cells td0 tTd)) = W0 := hW
  rw [hW'] at HV0
  clear hW hW'
  obtain ⟨b0, b1, b2, b3, b4, b5, b6, bf, bl⟩ := td_cells HV0.out.t
  obtain ⟨o0, o1, o2, o3, o4, o5, o6, of, ol⟩ := co_cells HV0.out.o
  go_wp2_with fail
  refine (HWh.out _ HV0.out.lb HV0.out.ls).mono ?_
  rintro e w1 ⟨rfl, ho⟩
  have HV1 := Lib.hid (HV0.out.nil ho)
  clear ho HV0 HWh b0 b1 b2 b3 b4 b5 b6 bf bl o0 o1 o2 o3 o4 o5 o6 of ol
  obtain ⟨b0, b1, b2, b3, b4, b5, b6, bf, bl⟩ := td_cells HV1.out.t
  obtain ⟨o0, o1, o2, o3, o4, o5, o6, of, ol⟩ := co_cells HV1.out.o
  go_wp2_with fail
  refine (HT.out _ HV1.out.lb HV1.out.ls HV1.out.le).mono ?_
  rintro e w2 ⟨x1, x2, x3, rfl, hx1, hx2, hx3, ho⟩
  obtain ⟨X1, m1, d1, rfl⟩ := hx1.isSl
  obtain ⟨X2, m2, d2, rfl⟩ := hx2.isSl
  obtain ⟨X3, m3, d3, rfl⟩ := hx3.isSl
  have HV2 := Lib.hid (HV1.out.nil ho)
  have Hx1 := Lib.hid hx1
  have Hx2 := Lib.hid hx2
  have Hx3 := Lib.hid hx3
  clear ho HV1 HT hx1 hx2 hx3 b0 b1 b2 b3 b4 b5 b6 bf bl o0 o1 o2 o3 o4 o5 o6 of ol
  obtain ⟨hr1, hr2⟩ := HV2.out.ret (t := tell (b, l) (evCancel o.id o.left 4)) Hx1.out Hx2.out Hx3.out
  have HR1 := Lib.hid hr1
  have HR2 := Lib.hid hr2
  clear hr1 hr2
  go_wp2_with (refine wpList_store_row rfl tTd (.tmp 4) (.tmp 22) rfl _ rfl (tdRow (tell (b, l) (evCancel o.id o.left 4)).1 (.slice X1 m1 d1) (.slice X2 m2 d2) (.slice X3 m3 d3)) _ rfl _ HV2.out.r infoTd rfl (one_td _ ⟨_, _, _, rfl⟩ ⟨_, _, _, rfl⟩ ⟨_, _, _, rfl⟩) ?_)
  rw [HE.out]
  exact bodyPost_ret (retRow rfl _ _ _ _ rfl HR1.out rfl) rfl HR2.out
end Ck
end Go.Proofs.Ytcnkbhgdcfckoaa
