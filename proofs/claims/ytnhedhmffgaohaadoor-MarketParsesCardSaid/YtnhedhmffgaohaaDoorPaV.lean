/- (Printed by wip/gen/patail.py.) A line behind so many commands; the loop of the program's parsed. -/
import Derived.Test.YtnhedhmffgaohaaDoorPaU
import Derived.Test.YtnhedhmffgaohaaDoorAg
import Derived.Deep.RegionHeld3
import Derived.StillTailTactics
import Derived.Deep.CutRange
namespace Go.Proofs.YtnhedhmffgaohaaDoor
open Go.RowKit
namespace Pa
inductive LRes where
  | skip
  | bad (at_ code : Nat)
  | good (word : ByteArray) (args : List ByteArray)
def hash (t : ByteArray) : Bool := t.data.toList.head? == some 35
/-- A line behind so many commands. -/
def lineRes (line : ByteArray) (ahead : Nat) : LRes := if 2048 < line.size then .bad 2048 2 else match words line with
  | [] => .skip
  | w0 :: ws => if hash w0.1 = true then .skip else if 400 ≤ ahead then .bad 0 2 else match cmd line.size w0 ws ahead with
    | .bad a => .bad a 280
    | .good l => .good w0.1 l
theorem words_in (s : ByteArray) : ∀ i, ∀ x ∈ wordsAt s i, 0 < x.1.size ∧ x.1.size ≤ s.size ∧ x.2 ≤ s.size := by
  intro i
  fun_induction wordsAt s i with
  | case1 i h h' ih => exact ih
  | case2 i h h' ih =>
    intro x hx
    rcases List.mem_cons.1 hx with rfl | hx
    · have h1 := stop_ge s (i + 1)
      have h2 := stop_le s (i + 1) (by omega)
      simp only [ByteArray.size_extract]
      omega
    · exact ih x hx
  | case3 i h => intro x hx; simp at hx
abbrev tSy : Nat := 29
def zSy : Array Value := #[.int .i64 0, .string ⟨#[]⟩, .slice none 0 0]
theorem one_zSy : zSy.all (·.oneCell') = true := by kernel_rfl
theorem one_sy (t : ByteArray) (A : Option Addr) (k c : Nat) : (#[Value.int .i64 0, .string t, .slice A k c] : Array Value).all (·.oneCell') = true := by kernel_rfl
theorem infoSy : (Tryd.prog.info? tSy).map (·.size) = some 3 := by kernel_rfl
theorem results_cell_tmp2 {fn : Func} {p u v : Tmp} {ty : TypeId} (h : fn.results = #[.cell p ty, .tmp u, .tmp v]) (tmps : Array Value) (P : Program) (w : World) :
    (results fn tmps).run P w =
      ((asAddr (tmps.getD p undef)).run P w).andThen fun a w₁ => ((loadVar ty a).run P w₁).andThen fun x w₂ => .ok (.tuple #[x, tmps.getD u undef, tmps.getD v undef]) w₂ := by
  simp only [results, h]
  simp [Sem.run_bind, Result.andThen]
theorem blk_zz {W : World} {b : Nat} (h : W.heap[b]? = some (.cells zSy tSy (0, 0))) : ((((W.setCell ⟨b, 0, none⟩ (.int .i64 0)).setCell ⟨b, 1, none⟩ (.string ⟨#[]⟩)).setCell ⟨b, 2, none⟩ (.slice none 0 0)).drew).heap[b]? = some (.cells zSy tSy (0, 0)) := by
  have := blk_set (blk_set (blk_set h 0 (.int .i64 0)) 1 (.string ⟨#[]⟩)) 2 (.slice none 0 0)
  have h2 : (((W.setCell ⟨b, 0, none⟩ (.int .i64 0)).setCell ⟨b, 1, none⟩ (.string ⟨#[]⟩)).setCell ⟨b, 2, none⟩ (.slice none 0 0)).heap[b]? = some (.cells zSy tSy (0, 0)) := by simpa [zSy] using this
  exact h2
theorem only_zz {w W : World} {b : Nat} (h : Only Nil w W) (hb : w.heap.size ≤ b) : Only Nil w ((((W.setCell ⟨b, 0, none⟩ (.int .i64 0)).setCell ⟨b, 1, none⟩ (.string ⟨#[]⟩)).setCell ⟨b, 2, none⟩ (.slice none 0 0)).drew) :=
  ((((h.setCell (p := ⟨b, 0, none⟩) (.inr hb) _).setCell (p := ⟨b, 1, none⟩) (.inr hb) _).setCell (p := ⟨b, 2, none⟩) (.inr hb) _)).drew
/-- Three results, the first an aggregate in a variable. -/
theorem results_agg_tmp2 {fn : Func} {p u v : Tmp} {ty : TypeId} (h : fn.results = #[.cell p ty, .tmp u, .tmp v]) (tmps : Array Value) (w : World) (g : Nat) (t : TypeId) (cs : Array Value) (fr : Nat × Nat) (d : TypeDesc)
    (hp : tmps.getD p undef = .pointer (some ⟨g, 0, none⟩)) (x y : Value) (hx : tmps.getD u undef = x) (hy : tmps.getD v undef = y) (hg : w.heap[g]? = some (.cells cs t fr))
    (hu : Tryd.prog.underlying ty = some d) (hd : d.isRow = true) (hi : (Tryd.prog.info? ty).map (·.size) = some cs.size) :
    (results fn tmps).run Tryd.prog w = .ok (.tuple #[.agg cs, x, y]) w := by
  have hl : (loadVar ty ⟨g, 0, none⟩).run Tryd.prog w = .ok (.agg cs) w := run_loadVar_row w g t ty cs fr d hg hu (by cases d <;> first | rfl | simp [TypeDesc.isRow] at hd) hi
  rw [results_cell_tmp2 h]
  simp only [hp, hx, hy, asAddr, Sem.run_pure, Result.andThen_ok, hl]
def pOut (r : LRes) (base : Nat) (e : Ending) (w' : World) : Prop := match r with
  | .skip => e = .returned (.tuple #[.agg zSy, .int .i64 0, .int .i64 0])
  | .bad a c => e = .returned (.tuple #[.agg zSy, .int .i64 (a : Int), .int .i64 (c : Int)])
  | .good t l => ∃ v, e = .returned (.tuple #[.agg #[.int .i64 0, .string t, v], .int .i64 0, .int .i64 0]) ∧ w'.ownsRow base tStr 1 v l.length (l.map Value.string)
theorem own_setRow {w : World} {base n size R : Nat} {e : TypeId} {v : Value} {xs : List Value} (h : w.ownsRow base e size v n xs) (hne : v.ownBlock ≠ some R) (cs : Array Value) : (w.setRow R cs).ownsRow base e size v n xs :=
  own_heap h (row := v.ownBlock) rfl (fun k hk => setRow_other w R k cs (fun e => hne (by rw [hk, e])))
/-- what stands behind the first k statements of a sequence -/
def behind : Nat → Code → Code
  | 0, c => c
  | k + 1, .seq _ b => behind k b
  | _, c => c
set_option maxHeartbeats 4000000 in
set_option maxRecDepth 100000 in
theorem parsed_tail (line : ByteArray) (ahead : Nat) (w W : World) (s0 : ByteArray) (a0 : Nat) (ws : List (ByteArray × Nat)) (f : ByteArray) (R B g c : Nat) (hsz : line.size ≤ 2048)
    (hin : ∀ x ∈ (s0, a0) :: ws, 0 < x.1.size ∧ x.1.size ≤ line.size ∧ x.2 ≤ line.size) (hn : ws.length + 1 ≤ 2048) (hfk : ∀ c ∈ f.data.toList, c = 109 ∨ c = 105 ∨ c = 110 ∨ c = 78 ∨ c = 67) (hfs : f.size ≤ 16)
    (hx : lineRes line ahead = match argsGo line.size f.data.toList ws with
      | .bad a => .bad a 280
      | .good l => .good s0 l)
    (hr : W.ownsRow 0 tW 2 (.slice (some ⟨g, 0, none⟩) (ws.length + 1) c) (ws.length + 1) (((s0, a0) :: ws).flatMap wcells)) (hz : W.heap[R]? = some (.cells zSy tSy (0, 0))) (hb : W.heap[B]? = some (.cells #[.int .i64 0, .string s0, .slice none 0 0] tSy (0, 0)))
    (hRB : R ≠ B) (hR : w.heap.size ≤ R) (hB : w.heap.size ≤ B) (hv : Vars w) (ho : Only Nil w W)
    (u11 u12 u13 u14 u15 u16 u17 u18 u19 u20 u21 u22 u23 u24 u25 u26 u27 u28 u29 u30 u31 u32 u33 u34 u35 u36 u37 u38 u39 u40 u41 u42 u43 u44 u45 u46 u47 u48 u49 u50 u51 u52 u53 u54 u55 u56 u57 u58 u59 u60 u61 u62 u63 u64 u65 u66 u67 u68 u69 u70 u71 u72 u73 u74 u75 u76 u77 u78 u79 u80 u81 u82 u83 u84 u85 u86 u87 u88 u89 u90 u91 u92 u93 u94 u95 u96 u97 u98 u99 u100 u101 u102 u103 u104 u105 u106 u107 u108 u109 u110 u111 u112 u113 u114 u115 : Value) :
    Code.wp Tryd.prog (behind 8 (Tryd.f8.body.getD .skip)) (bodyPost Tryd.prog Tryd.f8 fun e w' => pOut (lineRes line ahead) w.heap.size e w' ∧ Only Nil w w') ⟨#[.string line, .int .i64 (ahead : Int), undef, undef, .pointer (some ⟨R, 0, none⟩), .int .i64 0, .int .i64 0, .slice (some ⟨g, 0, none⟩) (ws.length + 1) c, .string f, .bool true, .pointer (some ⟨B, 0, none⟩), u11, u12, u13, u14, u15, u16, u17, u18, u19, u20, u21, u22, u23, u24, u25, u26, u27, u28, u29, u30, u31, u32, u33, u34, u35, u36, u37, u38, u39, u40, u41, u42, u43, u44, u45, u46, u47, u48, u49, u50, u51, u52, u53, u54, u55, u56, u57, u58, u59, u60, u61, u62, u63, u64, u65, u66, u67, u68, u69, u70, u71, u72, u73, u74, u75, u76, u77, u78, u79, u80, u81, u82, u83, u84, u85, u86, u87, u88, u89, u90, u91, u92, u93, u94, u95, u96, u97, u98, u99, u100, u101, u102, u103, u104, u105, u106, u107, u108, u109, u110, u111, u112, u113, u114, u115], []⟩ W := by
  obtain ⟨i0, hi0, hz0, hz1, hz2⟩ := info_parts infoS
  obtain ⟨hg, hnc, hcm⟩ : g < W.heap.size ∧ ws.length + 1 ≤ c ∧ c ≤ 9223372036854775807 := by
    obtain ⟨g', c', e, h1, h2, h3⟩ := own_row hr (by omega)
    injection e with e1 e2 e3
    injection e1 with e1
    injection e1 with e1
    subst e1
    subst e3
    exact ⟨h1, h2, h3⟩
  have hgR : g ≠ R := fun e => own_blk_ne hr hz (by decide) (by rw [e]; rfl)
  have hgB : g ≠ B := fun e => own_blk_ne hr hb (by decide) (by rw [e]; rfl)
  have hRg := hgR.symm
  have hBg := hgB.symm
  have hBR := hRB.symm
  have hlenI : ((ws.length + 1 : Nat) : Int) = (ws.length : Int) + 1 := by simp
  have hN : (ws.length : Int) + 1 ≤ 2048 := by omega
  have hRW : R < W.heap.size := blk_lt hz
  have hBW : B < W.heap.size := blk_lt hb
  have HI := Lib.hid hin
  have HFk := Lib.hid hfk
  have HX := Lib.hid hx
  have HR := Lib.hid hr
  have HZ := Lib.hid hz
  have HB := Lib.hid hb
  have HV := Lib.hid hv
  have HO := Lib.hid ho
  have HwW := Lib.hid ho.size
  clear hin hfk hx hr hz hb hv ho
  conv => arg 2; whnf
  conv => arg 4; dsimp only
  go_upto_region 13 with fail
  go_loopg [11, 12, 67] (f.size) (fun m v11 v12 v67 wr => ∃ (k : Nat) (av : Value), m = f.size - k ∧ v67 = .int .i64 k ∧ Hid (Upto line.size f.data.toList ws k) ∧ Hid (wr.heap[B]? = some (.cells #[.int .i64 0, .string s0, av] tSy (0, 0))) ∧ Hid (wr.ownsRow W.heap.size tStr 1 av k ((ws.take k).map fun x => Value.string x.1)) ∧ Hid (Only (fun b => b = B) W wr))
  case atStart => exact ⟨0, _, by omega, rfl, Lib.hid (Upto.zero _ _ _), HB, Lib.hid (by simpa using own_nil _ _ _ _), Lib.hid (Only.refl _ _)⟩
  case round =>
    obtain ⟨k, av, hm, rfl, HU, HBw, HA0, HO1⟩ := hrel
    have hkf : k ≤ f.size := by have := HU.out.hk; simpa using this
    have hkw := HU.out.hw
    have HOw : Hid (Only Nil w wr) := Lib.hid (HO.out.trans HO1.out (fun i hi e => by omega))
    have HVw := Lib.hid (HV.out.only HOw.out)
    have HZw := Lib.hid (HO1.out.blk HZ.out hRB)
    have HRw := Lib.hid (own_only HR.out HO1.out (fun b hb e => by
      injection hb with hb
      exact hgB (hb.trans e)))
    have hRw : R < wr.heap.size := blk_lt HZw.out
    have hBw : B < wr.heap.size := blk_lt HBw.out
    have hgw : g < wr.heap.size := Nat.lt_of_lt_of_le hg HO1.out.size
    have hWw := HO1.out.size
    have b0 := blk_cell HBw.out 0
    have b1 := blk_cell HBw.out 1
    have b2 := blk_cell HBw.out 2
    have z0 := blk_cell HZw.out 0
    have z1 := blk_cell HZw.out 1
    have z2 := blk_cell HZw.out 2
    simp only [zSy, List.getElem?_toArray, List.getElem?_cons_zero, List.getElem?_cons_succ] at b0 b1 b2 z0 z1 z2
    have zf := fun k => blk_frozen HZw.out k
    have bf := fun k => blk_frozen HBw.out k
    by_cases hlt : k < f.size
    · have hkI : (k : Int) < (f.size : Int) := by omega
      have hfc := byte_get hlt
      by_cases hws2 : k < ws.length
      · have hwI : (k : Int) + 1 < (ws.length : Int) + 1 := by omega
        have hwx : ws[k]? = some ws[k] := List.getElem?_eq_getElem hws2
        obtain ⟨e0, e1⟩ := word_at HRw.out (i := k + 1) (x := ws[k]) (by simpa only [List.getElem?_cons_succ] using hwx)
        have hxs := HI.out ws[k] (by simp)
        generalize ws[k] = x at *
        obtain ⟨t, p⟩ := x
        simp only at *
        have hk0 : (0 : Int) ≤ (k : Int) + 1 := by omega
        have hk1 : ((k : Int) + 1).toNat = k + 1 := by omega
        have HX4 := Lib.hid (blk_new wr (.cells #[.string t, .int .i64 (p : Int)] 46))
        have HO4 : Hid (Only Nil wr (wr.alloc (.cells #[.string t, .int .i64 (p : Int)] 46))) := Lib.hid ((Only.refl _ _).alloc _)
        go_upto_region 18 with fail
        generalize wr.alloc (.cells #[.string t, .int .i64 (p : Int)] 46) = W4 at *
        have hRX : R ≠ wr.heap.size := by omega
        have hXR := hRX.symm
        have hBX : B ≠ wr.heap.size := by omega
        have hXB := hBX.symm
        have hXW : W.heap.size ≤ wr.heap.size := hWw
        have HBO := Lib.hid (blk_lt HX4.out)
        have HWw := Lib.hid hWw
        clear b0 b1 b2 z0 z1 z2 e0 e1 zf bf hWw hRw hBw hgw
        generalize hX : wr.heap.size = X at *
        have hx4 : X < W4.heap.size := HBO.out
        clear HBO
        have x0 := blk_cell HX4.out 0
        simp only [List.getElem?_toArray, List.getElem?_cons_zero] at x0
        have HSof := Lib.hid (fun Y (ho : Only Nil W4 Y) => (⟨(ho.cell (p := ⟨X, 0, none⟩) hx4 (fun h => h)).trans x0, ho⟩ : Y.cell? ⟨X, 0, none⟩ = some (.string t) ∧ Only Nil W4 Y))
        have HFit := Lib.hid (fun Y (ho : Only Nil W4 Y) => fits_any t f[k] Y (HFk.out _ (List.mem_of_getElem? hfc)) (by omega) ((HVw.out.only HO4.out).only ho))
        clear x0
        go_region_held3 (fun Y => Y.cell? ⟨X, 0, none⟩ = some (.string t) ∧ Only Nil W4 Y) (first | (with_reducible exact HSof.out _ (Only.refl _ _).drew) | (with_reducible exact HSof.out _ (Only.trans (S := Nil) (T := Nil) (Only.refl _ _).drew hog (fun _ _ h => h)))) ((first | (go_at_call 16; go_split_ands; (refine (HFit.out _ (by assumption)).mono ?_); rintro e wg ⟨rfl, hog⟩)))
        have HG := Lib.hid (Only.trans (S := Nil) (T := Nil) HO4.out (Only.trans (S := Nil) (T := Nil) (Only.refl _ _).drew hog (fun _ _ h => h)) (fun _ _ h => h))
        have HXg := Lib.hid ((Only.trans (S := Nil) (T := Nil) (Only.refl _ _).drew hog (fun _ _ h => h)).blk HX4.out (fun h => h))
        have HBg := Lib.hid (HG.out.blk HBw.out (fun h => h))
        have HZg := Lib.hid (HG.out.blk HZw.out (fun h => h))
        have HAg := Lib.hid (own_only HA0.out HG.out (fun _ _ h => h))
        have HOg := Lib.hid (HO1.out.trans HG.out (fun _ _ h => h.elim))
        have HOwg := Lib.hid (HOw.out.trans (S := Nil) HG.out (fun _ _ h => h))
        clear HFit HSof HO4 HX4 HBw HZw HA0 HO1 HOw HRw HVw hog hx4
        have hRw : R < wg.heap.size := blk_lt HZg.out
        have hBw : B < wg.heap.size := blk_lt HBg.out
        have hXw : X < wg.heap.size := blk_lt HXg.out
        have b0 := blk_cell HBg.out 0
        have b1 := blk_cell HBg.out 1
        have b2 := blk_cell HBg.out 2
        have z0 := blk_cell HZg.out 0
        have z1 := blk_cell HZg.out 1
        have z2 := blk_cell HZg.out 2
        have x0 := blk_cell HXg.out 0
        have x1 := blk_cell HXg.out 1
        simp only [zSy, List.getElem?_toArray, List.getElem?_cons_zero, List.getElem?_cons_succ] at b0 b1 b2 z0 z1 z2 x0 x1
        have zf := fun k => blk_frozen HZg.out k
        have bf := fun k => blk_frozen HBg.out k
        cases hfit : fits f[k] t.data.toList with
        | false =>
          have HA := Lib.hid (HU.out.misfit hfc hwx hfit)
          clear HU hwx hfc hfit
          go_upto_region 19 with fail
          go_region
          go_wp2
          refine bodyPost_ret (v := .tuple #[.agg zSy, .int .i64 (p : Int), .int .i64 280]) (results_agg_tmp2 rfl _ _ _ _ _ _ _ rfl _ _ rfl rfl (blk_zz HZg.out) Tryd.underlying29 rfl infoSy) rfl ⟨?_, only_zz HOwg.out hR⟩
          rw [HX.out, HA.out]
          rfl
        | true =>
          have HU1 := Lib.hid (HU.out.next hfc hwx hfit)
          have HT := Lib.hid (take_args hwx)
          clear HU hwx hfc hfit
          have hneB := own_blk_ne HAg.out HBg.out (show tStr ≠ tSy by decide)
          have hk6 : k ≤ 65536 := by omega
          go_wp2_with (at_builtin; (refine wpList_append_lies _ rfl (.tmp 94) (.tmp 97) _ rfl W.heap.size tStr i0 _ 1 16 Tryd.underlying27 hi0 hz0 hz1 hz2 rfl (by omega) av k _ rfl (HAg.out.alloc _) ⟨wg.heap.size, 0, none⟩ 1 1 [.string t] rfl rfl (World.news_of_block (blk_new' _ _ _ rfl)) (one_s _) (by omega) (bytesS _ hk6).1 (bytesS _ hk6).2 (HOg.out.alloc _).size _ rfl ?_); intro g' cap w6 hown hgrow hat hlt1; have hB6 := blk_grown (blk_alloc HBg.out (.cells #[.string t] tStr)) hgrow hneB; have q2 := blk_cell hB6 2; have ql := blk_lt hB6; have qf := (fun k => blk_frozen hB6 k); simp only [List.getElem?_toArray, List.getElem?_cons_zero, List.getElem?_cons_succ] at q2)
          have hO6 : Only (fun b => b = B) W w6 := (HOg.out.alloc _).grown hgrow (fun b hb hlt => by have := (HAg.out.lt b hb).1; omega)
          have hB7 : (w6.setCell ⟨B, 2, none⟩ (.slice (some ⟨g', 0, none⟩) (k + 1) cap)).heap[B]? = some (.cells #[.int .i64 0, .string s0, .slice (some ⟨g', 0, none⟩) (k + 1) cap] tSy (0, 0)) := by
            have := blk_set hB6 2 (.slice (some ⟨g', 0, none⟩) (k + 1) cap)
            simpa using this
          have hA7 : (w6.setCell ⟨B, 2, none⟩ (.slice (some ⟨g', 0, none⟩) (k + 1) cap)).ownsRow W.heap.size tStr 1 (.slice (some ⟨g', 0, none⟩) (k + 1) cap) (k + 1) ((ws.take (k + 1)).map fun x => Value.string x.1) := by
            rw [HT.out]
            exact own_far hown (p := ⟨B, 2, none⟩) (own_blk_ne hown hB6 (show tStr ≠ tSy by decide)) _
          go_roundg (f.size - (k + 1))
          case measure => omega
          case rel => exact ⟨k + 1, _, rfl, by go_num, HU1, Lib.hid hB7, Lib.hid hA7, Lib.hid (hO6.setCell (.inl rfl) _)⟩
      · have HA := Lib.hid (HU.out.few (by simpa using hlt) (by omega))
        have hwI : (ws.length : Int) + 1 ≤ (k : Int) + 1 := by omega
        clear HU b0 b1 b2 z0 z1 z2
        go_wp2_with (refine wpList_store_row rfl tSy (.tmp 4) (.tmp 75) rfl R rfl zSy zSy rfl tSy HZw.out infoSy rfl one_zSy ?_)
        refine bodyPost_ret (v := .tuple #[.agg zSy, .int .i64 (line.size : Int), .int .i64 280]) (results_agg_tmp2 rfl _ _ _ _ _ _ _ rfl _ _ rfl rfl (blk_setRow HZw.out zSy) Tryd.underlying29 rfl infoSy) rfl ⟨?_, HOw.out.setRow (.inr hR) _⟩
        rw [HX.out, HA.out]
        rfl
    · have hkf2 : k = f.size := by omega
      subst hkf2
      by_cases hws2 : f.size < ws.length
      · have hwx : ws[f.size]? = some ws[f.size] := List.getElem?_eq_getElem hws2
        obtain ⟨e0, e1⟩ := word_at HRw.out (i := f.size + 1) (x := ws[f.size]) (by simpa only [List.getElem?_cons_succ] using hwx)
        have HA := Lib.hid (HU.out.many (by simp) hwx)
        have hwI : (f.size : Int) + 1 < (ws.length : Int) + 1 := by omega
        generalize ws[f.size] = x at *
        obtain ⟨t, p⟩ := x
        simp only at *
        have hk0 : (0 : Int) ≤ (f.size : Int) + 1 := by omega
        have hk1 : ((f.size : Int) + 1).toNat = f.size + 1 := by omega
        clear HU hwx
        go_upto_region 23 with fail
        go_region
        go_wp2
        refine bodyPost_ret (v := .tuple #[.agg zSy, .int .i64 (p : Int), .int .i64 280]) (results_agg_tmp2 rfl _ _ _ _ _ _ _ rfl _ _ rfl rfl (blk_zz HZw.out) Tryd.underlying29 rfl infoSy) rfl ⟨?_, only_zz HOw.out hR⟩
        rw [HX.out, HA.out]
        rfl
      · have hwl : ws.length = f.size := by omega
        have HA := Lib.hid (HU.out.all (by simp) (by omega))
        have hwI : (ws.length : Int) + 1 ≤ (f.size : Int) + 1 := by omega
        obtain ⟨A, cp, rfl, hcp⟩ := own_slice HA0.out
        have HV4 : Hid (wr.ownsRow w.heap.size tStr 1 (.slice A f.size cp) (ws.map (·.1)).length ((ws.map (·.1)).map Value.string)) := Lib.hid (by
          have := HA0.out
          rw [List.take_of_length_le (by omega)] at this
          rw [List.length_map, hwl, List.map_map]
          exact own_mono this HwW.out)
        have hne7 := own_blk_ne HA0.out HZw.out (show tStr ≠ tSy by decide)
        clear HU
        go_wp2_with (refine wpList_store_row rfl tSy (.tmp 4) (.tmp 115) rfl R rfl #[.int .i64 0, .string s0, .slice A f.size cp] zSy rfl tSy HZw.out infoSy rfl (one_sy _ _ _ _) ?_)
        refine bodyPost_ret (v := .tuple #[.agg #[.int .i64 0, .string s0, .slice A f.size cp], .int .i64 0, .int .i64 0]) (results_agg_tmp2 rfl _ _ _ _ _ _ _ rfl _ _ rfl rfl (blk_setRow HZw.out #[.int .i64 0, .string s0, .slice A f.size cp]) Tryd.underlying29 rfl infoSy) rfl ⟨?_, HOw.out.setRow (.inr hR) _⟩
        rw [HX.out, HA.out]
        exact ⟨_, rfl, own_setRow HV4.out hne7 _⟩
end Pa
end Go.Proofs.YtnhedhmffgaohaaDoor
