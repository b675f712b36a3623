/- A frame's bytes: the program's Pack. -/
import Derived.Test.YtnhedhmffgaohaaGreatHs
import Derived.Test.YtnhedhmffgaohaaGreatAg
import Derived.Deep.MidRow
import Derived.Outline
import Derived.Deep.RegionLaw
namespace Go.Proofs.YtnhedhmffgaohaaGreat
open Go.RowKit
namespace Hs

abbrev tF : Nat := 108
abbrev tB : Nat := 139
def by64 (G : Nat → Nat) : Array Value := ((List.range 64).map fun k => Value.int .u8 (G k : Int)).toArray
def body (kind : Nat) (ws : Nat → Nat) (k : Nat) : Nat := if k = 0 then 66 else if k = 1 then 70 else if k = 2 then kind else if k = 3 then 0 else ws ((k - 4) / 8) / 2 ^ (8 * ((k - 4) % 8)) % 256
def packed (kind : Nat) (ws : Nat → Nat) (k : Nat) : Nat := if k < 60 then body kind ws k else sum (body kind ws) 60 / 2 ^ (8 * (k - 60)) % 256
def upto (n : Nat) (P : Nat → Nat) (k : Nat) : Nat := if k < n then P k else 0
theorem by64_set (G : Nat → Nat) {i : Nat} (hi : i < 64) (v : Nat) : (by64 G).setIfInBounds i (.int .u8 (v : Int)) = by64 (fun k => if k = i then v else G k) := by
  unfold by64
  apply Array.ext'
  rw [Array.toList_setIfInBounds]
  apply List.ext_getElem?
  intro k
  rw [List.getElem?_set]
  by_cases h : i = k
  · subst h
    simp [hi]
  · simp [h]
    by_cases hk : k < 64
    · simp [hk]
      rw [if_neg (fun e => h e.symm)]
    · simp [hk]
theorem upto_set (P : Nat → Nat) {i : Nat} (hi : i < 64) : (by64 (upto i P)).setIfInBounds i (.int .u8 (P i : Int)) = by64 (upto (i + 1) P) := by
  rw [by64_set _ hi]
  congr 1
  funext k
  unfold upto
  by_cases h : k = i
  · subst h; simp
  · rw [if_neg h]
    by_cases h2 : k < i
    · rw [if_pos h2, if_pos (by omega)]
    · rw [if_neg h2, if_neg (by omega)]
theorem by64_get (G : Nat → Nat) {i : Nat} (hi : i < 64) : (by64 G)[i]? = some (.int .u8 (G i : Int)) := by simp [by64, hi]
theorem by64_congr {G H : Nat → Nat} (h : ∀ k, k < 64 → G k = H k) : by64 G = by64 H := by
  unfold by64
  congr 1
  exact List.map_congr_left fun k hk => by rw [h k (List.mem_range.1 hk)]
theorem body_lt {kind : Nat} {ws : Nat → Nat} (h : kind < 256) (k : Nat) : body kind ws k < 256 := by
  unfold body
  repeat' split
  all_goals omega

def frameV (kind : Nat) (ws : Nat → Nat) : Value := .agg #[.int .u8 (kind : Int), .int .u64 (ws 0 : Int), .int .u64 (ws 1 : Int), .int .u64 (ws 2 : Int), .int .u64 (ws 3 : Int), .int .u64 (ws 4 : Int), .int .u64 (ws 5 : Int), .int .u64 (ws 6 : Int)]


theorem by64_size (G : Nat → Nat) : (by64 G).size = 64 := by simp [by64]
theorem by64_one (G : Nat → Nat) : (by64 G).all (·.oneCell') = true := by
  rw [Array.all_eq_true_iff_forall_mem]
  intro v hv
  unfold by64 at hv
  simp at hv
  obtain ⟨k, _, rfl⟩ := hv
  rfl
def zer (_ : Nat) : Nat := 0
theorem alloc64 (W : World) : (Instr.alloc tB true (.tuple #[])).run Tryz.prog W = .ok (.pointer (some ⟨W.heap.size, 0, none⟩)) (W.alloc (.cells (by64 zer) tB)) := by kernel_rfl
theorem info64 : (Tryz.prog.info? tB).map (·.size) = some 64 := by kernel_rfl
theorem setRow_new (W : World) (a b : Array Value) (t : TypeId) : (W.alloc (.cells a t)).setRow W.heap.size b = W.alloc (.cells b t) := by
  unfold World.setRow World.alloc
  congr 1
  apply Array.ext_getElem?
  intro k
  simp only [Array.getElem?_modify, Array.getElem?_push]
  by_cases h : W.heap.size = k
  · subst h; simp
  · rw [if_neg h, if_neg (fun e => h e.symm), if_neg (fun e => h e.symm)]
theorem store64 (W : World) (G H : Nat → Nat) : (Instr.storeAt tB (.pointer (some ⟨W.heap.size, 0, none⟩)) (.agg (by64 G))).run Tryz.prog (W.alloc (.cells (by64 H) tB)) = .ok () (W.alloc (.cells (by64 G) tB)) := by
  have h := run_storeVar_row (P := Tryz.prog) (W.alloc (.cells (by64 H) tB)) W.heap.size tB tB (by64 H) (by64 G) (heap_alloc_new W _) (by rw [by64_size]; exact info64) (by rw [by64_size, by64_size]) (by64_one G)
  rw [setRow_new] at h
  simp only [Instr.storeAt, Instr.sureAddr, Sem.run_bind, Sem.run_pure, Result.andThen_ok, h]
def st3 (kind : Nat) : Nat → Nat := fun k => if k = 0 then 66 else if k = 1 then 70 else if k = 2 then kind else 0
theorem build64 (kind : Nat) (W : World) : (Instr.build tB #[(0, .int .u8 66), (1, .int .u8 70), (2, .int .u8 (kind : Int))]).run Tryz.prog W = .ok (.agg (by64 (st3 kind))) W := by kernel_rfl
theorem index7_0 (ws : Nat → Nat) (W : World) : (Instr.index 106 (.agg #[.int .u64 (ws 0 : Int), .int .u64 (ws 1 : Int), .int .u64 (ws 2 : Int), .int .u64 (ws 3 : Int), .int .u64 (ws 4 : Int), .int .u64 (ws 5 : Int), .int .u64 (ws 6 : Int)]) (.int .i64 ((0 : Nat) : Int))).run Tryz.prog W = .ok (.int .u64 (ws 0 : Int)) W := by kernel_rfl
theorem index7_1 (ws : Nat → Nat) (W : World) : (Instr.index 106 (.agg #[.int .u64 (ws 0 : Int), .int .u64 (ws 1 : Int), .int .u64 (ws 2 : Int), .int .u64 (ws 3 : Int), .int .u64 (ws 4 : Int), .int .u64 (ws 5 : Int), .int .u64 (ws 6 : Int)]) (.int .i64 ((1 : Nat) : Int))).run Tryz.prog W = .ok (.int .u64 (ws 1 : Int)) W := by kernel_rfl
theorem index7_2 (ws : Nat → Nat) (W : World) : (Instr.index 106 (.agg #[.int .u64 (ws 0 : Int), .int .u64 (ws 1 : Int), .int .u64 (ws 2 : Int), .int .u64 (ws 3 : Int), .int .u64 (ws 4 : Int), .int .u64 (ws 5 : Int), .int .u64 (ws 6 : Int)]) (.int .i64 ((2 : Nat) : Int))).run Tryz.prog W = .ok (.int .u64 (ws 2 : Int)) W := by kernel_rfl
theorem index7_3 (ws : Nat → Nat) (W : World) : (Instr.index 106 (.agg #[.int .u64 (ws 0 : Int), .int .u64 (ws 1 : Int), .int .u64 (ws 2 : Int), .int .u64 (ws 3 : Int), .int .u64 (ws 4 : Int), .int .u64 (ws 5 : Int), .int .u64 (ws 6 : Int)]) (.int .i64 ((3 : Nat) : Int))).run Tryz.prog W = .ok (.int .u64 (ws 3 : Int)) W := by kernel_rfl
theorem index7_4 (ws : Nat → Nat) (W : World) : (Instr.index 106 (.agg #[.int .u64 (ws 0 : Int), .int .u64 (ws 1 : Int), .int .u64 (ws 2 : Int), .int .u64 (ws 3 : Int), .int .u64 (ws 4 : Int), .int .u64 (ws 5 : Int), .int .u64 (ws 6 : Int)]) (.int .i64 ((4 : Nat) : Int))).run Tryz.prog W = .ok (.int .u64 (ws 4 : Int)) W := by kernel_rfl
theorem index7_5 (ws : Nat → Nat) (W : World) : (Instr.index 106 (.agg #[.int .u64 (ws 0 : Int), .int .u64 (ws 1 : Int), .int .u64 (ws 2 : Int), .int .u64 (ws 3 : Int), .int .u64 (ws 4 : Int), .int .u64 (ws 5 : Int), .int .u64 (ws 6 : Int)]) (.int .i64 ((5 : Nat) : Int))).run Tryz.prog W = .ok (.int .u64 (ws 5 : Int)) W := by kernel_rfl
theorem index7_6 (ws : Nat → Nat) (W : World) : (Instr.index 106 (.agg #[.int .u64 (ws 0 : Int), .int .u64 (ws 1 : Int), .int .u64 (ws 2 : Int), .int .u64 (ws 3 : Int), .int .u64 (ws 4 : Int), .int .u64 (ws 5 : Int), .int .u64 (ws 6 : Int)]) (.int .i64 ((6 : Nat) : Int))).run Tryz.prog W = .ok (.int .u64 (ws 6 : Int)) W := by kernel_rfl
theorem index7 (ws : Nat → Nat) (k : Nat) (hk : k < 7) (W : World) : (Instr.index 106 (.agg #[.int .u64 (ws 0 : Int), .int .u64 (ws 1 : Int), .int .u64 (ws 2 : Int), .int .u64 (ws 3 : Int), .int .u64 (ws 4 : Int), .int .u64 (ws 5 : Int), .int .u64 (ws 6 : Int)]) (.int .i64 (k : Int))).run Tryz.prog W = .ok (.int .u64 (ws k : Int)) W := by
  match k, hk with
  | 0, _ => exact index7_0 ws W
  | 1, _ => exact index7_1 ws W
  | 2, _ => exact index7_2 ws W
  | 3, _ => exact index7_3 ws W
  | 4, _ => exact index7_4 ws W
  | 5, _ => exact index7_5 ws W
  | 6, _ => exact index7_6 ws W

section
variable {ops : Array Oper} {rest : List Oper} {o : Oper} {a : Act} {w : World} {Q : Exit → Act → World → Prop}
theorem wpList_alloc64 (hgd : o.guard = none) (ho : o.op = .alloc tB)
    (h : wpList Tryz.prog ops Q rest (a.put o.dst (.pointer (some ⟨w.heap.size, 0, none⟩))) (w.alloc (.cells (by64 zer) tB))) : wpList Tryz.prog ops Q (o :: rest) a w :=
  wpList_plain hgd fun _ hK => by
    unfold Oper.wp execOp
    simp only [ho, Sem.run_bind, Sem.run_pure, Result.andThen_ok, alloc64]
    exact hK _ _ h
theorem wpList_build64 (hgd : o.guard = none) (x : Operand) (ho : o.op = .build tB #[(0, .const (.int .u8 66)), (1, .const (.int .u8 70)), (2, x)]) (kind : Nat) (hx : a.eval x = .int .u8 (kind : Int))
    (h : wpList Tryz.prog ops Q rest (a.put o.dst (.agg (by64 (st3 kind)))) w) : wpList Tryz.prog ops Q (o :: rest) a w :=
  wpList_plain hgd fun _ hK => by
    unfold Oper.wp execOp
    have e : (#[(0, Operand.const (Value.int .u8 66)), (1, .const (.int .u8 70)), (2, x)] : Array (Nat × Operand)).map (fun (i, y) => (i, a.eval y)) = #[(0, .int .u8 66), (1, .int .u8 70), (2, .int .u8 (kind : Int))] := by
      simp only [List.map_toArray, List.map_cons, List.map_nil, hx]
      rfl
    simp only [ho]
    rw [e]
    simp only [Sem.run_bind, Sem.run_pure, Result.andThen_ok, build64]
    exact hK _ _ h
theorem wpList_store64 (hgd : o.guard = none) (x y : Operand) (ho : o.op = .store tB x y) (g : Nat) (hx : a.eval x = .pointer (some ⟨g, 0, none⟩)) (G H : Nat → Nat) (hy : a.eval y = .agg (by64 G)) (hg : w.heap[g]? = some (.cells (by64 H) tB (0, 0)))
    (h : wpList Tryz.prog ops Q rest (a.put o.dst undef) (w.setRow g (by64 G))) : wpList Tryz.prog ops Q (o :: rest) a w :=
  wpList_plain hgd fun _ hK => by
    unfold Oper.wp execOp
    have hr := run_storeVar_row (P := Tryz.prog) w g tB tB (by64 H) (by64 G) hg (by rw [by64_size]; exact info64) (by rw [by64_size, by64_size]) (by64_one G)
    simp only [ho, hx, hy, Instr.storeAt, Instr.sureAddr, Sem.run_bind, Sem.run_pure, Result.andThen_ok, hr]
    exact hK _ _ h
end



theorem upto4 (kind : Nat) (ws : Nat → Nat) : by64 (st3 kind) = by64 (upto 4 (packed kind ws)) := by64_congr fun k hk => by
  unfold st3 upto packed body
  by_cases h0 : k = 0
  · subst h0; simp
  · by_cases h1 : k = 1
    · subst h1; simp
    · by_cases h2 : k = 2
      · subst h2; simp
      · by_cases h3 : k = 3
        · subst h3; simp
        · rw [if_neg h0, if_neg h1, if_neg h2, if_neg (by omega)]
theorem upto64 (P : Nat → Nat) : by64 (upto 64 P) = by64 P := by64_congr fun k hk => by unfold upto; rw [if_pos hk]
theorem packed_word (kind : Nat) (ws : Nat → Nat) {i j : Nat} (hi : i < 7) (hj : j < 8) : packed kind ws (4 + 8 * i + j) = ws i / 2 ^ (8 * j) % 256 := by
  unfold packed body
  rw [if_pos (by omega), if_neg (by omega), if_neg (by omega), if_neg (by omega), if_neg (by omega), show (4 + 8 * i + j - 4) / 8 = i by omega, show (4 + 8 * i + j - 4) % 8 = j by omega]
theorem packed_sum (kind : Nat) (ws : Nat → Nat) {j : Nat} : packed kind ws (60 + j) = sum (body kind ws) 60 / 2 ^ (8 * j) % 256 := by
  unfold packed
  rw [if_neg (by omega), show 60 + j - 60 = j by omega]
theorem packed_body {kind : Nat} {ws : Nat → Nat} {k : Nat} (h : k < 60) : packed kind ws k = body kind ws k := by unfold packed; rw [if_pos h]
theorem wrap8 (x j : Nat) : IntKind.u8.wrap ((x : Int) / 2 ^ (8 * j)) = ((x / 2 ^ (8 * j) % 256 : Nat) : Int) := by
  rw [IntKind.wrap_u8', Int.natCast_emod, Int.natCast_ediv, Int.natCast_pow]
  rfl

set_option maxHeartbeats 800000 in
set_option maxRecDepth 100000 in
theorem pack_prog (kind : Nat) (ws : Nat → Nat) (w : World) (hk : kind < 256) :
    Calls Tryz.prog 90 #[frameV kind ws] w fun e w' => e = .returned (.agg (by64 (packed kind ws))) ∧ Only Nil w w' := by
  unfold frameV
  go_enter Tryz.func90, Tryz.ntmps90
  go_upto_region 2 with (first | (refine wpList_alloc64 rfl rfl ?_) | (refine wpList_build64 rfl _ rfl kind rfl ?_) | (refine wpList_store64 rfl (.tmp 3) (.tmp 11) rfl _ rfl _ _ rfl (heap_alloc_new _ _) ?_))
  simp only [Act.put, World.size_alloc]
  have f0 : Only Nil w (w.alloc (.cells #[.int .u8 (kind : Int), .int .u64 (ws 0 : Int), .int .u64 (ws 1 : Int), .int .u64 (ws 2 : Int), .int .u64 (ws 3 : Int), .int .u64 (ws 4 : Int), .int .u64 (ws 5 : Int), .int .u64 (ws 6 : Int)] tF)) := (Only.refl _ _).alloc _
  have f1 := blk_new w (.cells #[.int .u8 (kind : Int), .int .u64 (ws 0 : Int), .int .u64 (ws 1 : Int), .int .u64 (ws 2 : Int), .int .u64 (ws 3 : Int), .int .u64 (ws 4 : Int), .int .u64 (ws 5 : Int), .int .u64 (ws 6 : Int)] tF)
  have f2 : (w.alloc (.cells #[.int .u8 (kind : Int), .int .u64 (ws 0 : Int), .int .u64 (ws 1 : Int), .int .u64 (ws 2 : Int), .int .u64 (ws 3 : Int), .int .u64 (ws 4 : Int), .int .u64 (ws 5 : Int), .int .u64 (ws 6 : Int)] tF)).heap.size = w.heap.size + 1 := by simp
  generalize w.alloc (.cells #[.int .u8 (kind : Int), .int .u64 (ws 0 : Int), .int .u64 (ws 1 : Int), .int .u64 (ws 2 : Int), .int .u64 (ws 3 : Int), .int .u64 (ws 4 : Int), .int .u64 (ws 5 : Int), .int .u64 (ws 6 : Int)] tF) = W at *
  have g1 := (setRow_other ((W.alloc (.cells (by64 zer) tB)).alloc (.cells (by64 zer) tB)) (w.heap.size + 1 + 1) w.heap.size (by64 (st3 kind)) (by omega)).trans (blk_alloc (blk_alloc f1 (.cells (by64 zer) tB)) (.cells (by64 zer) tB))
  have g2 := (setRow_other ((W.alloc (.cells (by64 zer) tB)).alloc (.cells (by64 zer) tB)) (w.heap.size + 1 + 1) (w.heap.size + 1) (by64 (st3 kind)) (by omega)).trans (blk_alloc (blk_new' W (.cells (by64 zer) tB) _ f2.symm) (.cells (by64 zer) tB))
  have g3 := blk_setRow (blk_new' (W.alloc (.cells (by64 zer) tB)) (.cells (by64 zer) tB) (w.heap.size + 1 + 1) (by simp [f2])) (by64 (st3 kind))
  have g4 : Only Nil w (((W.alloc (.cells (by64 zer) tB)).alloc (.cells (by64 zer) tB)).setRow (w.heap.size + 1 + 1) (by64 (st3 kind))) := ((f0.alloc _).alloc _).setRow (.inr (by omega)) _
  generalize ((W.alloc (.cells (by64 zer) tB)).alloc (.cells (by64 zer) tB)).setRow (w.heap.size + 1 + 1) (by64 (st3 kind)) = W1 at *
  clear f0 f1 f2
  rw [upto4 kind ws] at g3
  have c0 := blk_cell g1 1
  have c1 := blk_cell g1 2
  have c2 := blk_cell g1 3
  have c3 := blk_cell g1 4
  have c4 := blk_cell g1 5
  have c5 := blk_cell g1 6
  have c6 := blk_cell g1 7
  simp only [List.getElem?_toArray, List.getElem?_cons_zero, List.getElem?_cons_succ] at c0 c1 c2 c3 c4 c5 c6
  have l1 := blk_lt g1
  have G1 := Lib.hid g1
  have G2 := Lib.hid g2
  have G3 := Lib.hid g3
  have G4 := Lib.hid g4
  clear g1 g2 g3 g4
  go_wp2
  clear c0 c1 c2 c3 c4 c5 c6 l1 G1
  go_loopg [14] 7 (fun g v14 wr => ∃ i : Nat, i ≤ 7 ∧ g = 7 - i ∧ v14 = .int .i64 i ∧ Hid (wr.heap[w.heap.size + 1 + 1]? = some (.cells (by64 (upto (4 + 8 * i) (packed kind ws))) tB (0, 0))) ∧ Hid (Only (fun b => b = w.heap.size + 1 + 1) W1 wr))
  case atStart => exact ⟨0, by omega, by omega, rfl, G3, Lib.hid (Only.refl _ _)⟩
  case round =>
    obtain ⟨i, hi, hg, rfl, HB, HO⟩ := hrel
    clear G3
    by_cases hlt : i < 7
    · have hx := index7 ws i hlt
      have hiI : (i : Int) < 7 := by omega
      go_wp2
      clear hx
      go_loopg [18] 8 (fun g v18 wi => ∃ j : Nat, j ≤ 8 ∧ g = 8 - j ∧ v18 = .int .i64 j ∧ Hid (wi.heap[w.heap.size + 1 + 1]? = some (.cells (by64 (upto (4 + 8 * i + j) (packed kind ws))) tB (0, 0))) ∧ Hid (Only (fun b => b = w.heap.size + 1 + 1) W1 wi))
      case atStart => exact ⟨0, by omega, by omega, rfl, HB, HO⟩
      case round =>
        obtain ⟨j, hj, hgj, rfl, HC, HP⟩ := hrel
        clear HB HO
        by_cases hj8 : j < 8
        · have hjI : (j : Int) < 8 := by omega
          have hc := (blk_cell HC.out (4 + 8 * i + j)).trans (by64_get (i := 4 + 8 * i + j) _ (by omega))
          have hf := blk_frozen HC.out (4 + 8 * i + j)
          have hl := blk_lt HC.out
          have hn := blk_set HC.out (4 + 8 * i + j) (.int .u8 (packed kind ws (4 + 8 * i + j) : Int))
          rw [upto_set _ (by omega), packed_word kind ws hlt hj8] at hn
          have ho := HP.out.setCell (p := ⟨w.heap.size + 1 + 1, 4 + 8 * i + j, none⟩) (.inl rfl) (.int .u8 (ws i / 2 ^ (8 * j) % 256 : Nat))
          have hv : ((ws i / 2 ^ (8 * j) % 256 : Nat) : Int) = (ws i : Int) / 2 ^ (8 * j) % 256 := by
            rw [Int.natCast_emod, Int.natCast_ediv, Int.natCast_pow]; rfl
          rw [hv] at hn ho
          have HN := Lib.hid hn
          have HQ := Lib.hid ho
          clear hn ho hv
          go_wp2
          go_roundg (8 - (j + 1))
          case measure => omega
          case rel => exact ⟨j + 1, by omega, rfl, by go_num, HN, HQ⟩
        · have he : j = 8 := by omega
          subst he
          go_wp2
          go_roundg (7 - (i + 1))
          case measure => omega
          case rel => exact ⟨i + 1, by omega, rfl, by go_num, HC, HP⟩
    · have he : i = 7 := by omega
      subst he
      have hsh : Hs.Shows wr (w.heap.size + 1 + 1) 0 60 (body kind ws) := fun k hk => by
        rw [Nat.zero_add, blk_cell HB.out k, by64_get _ (by omega)]
        unfold upto
        rw [if_pos (by omega), packed_body hk]
      have HS := Lib.hid (sum_prog (w.heap.size + 1 + 1) 0 60 64 (body kind ws) wr (body_lt hk) (blk_lt HB.out) (by omega) hsh)
      clear hsh
      go_wp2_with fail
      refine HS.out.mono ?_
      rintro e w2 ⟨rfl, rfl⟩
      clear HS
      go_wp2
      go_loopg [36, 8] 4 (fun g v36 v8 wi => ∃ j : Nat, j ≤ 4 ∧ g = 4 - j ∧ v36 = .int .i64 j ∧ Hid (wi.heap[w.heap.size + 1 + 1]? = some (.cells (by64 (upto (60 + j) (packed kind ws))) tB (0, 0))) ∧ Hid (Only (fun b => b = w.heap.size + 1 + 1) W1 wi))
      case atStart => exact ⟨0, by omega, by omega, rfl, HB, HO⟩
      case round =>
        obtain ⟨j, hj, hgj, rfl, HC, HP⟩ := hrel
        clear HB HO
        by_cases hj4 : j < 4
        · have hjI : (j : Int) < 4 := by omega
          have hc := (blk_cell HC.out (60 + j)).trans (by64_get (i := 60 + j) _ (by omega))
          have hf := blk_frozen HC.out (60 + j)
          have hl := blk_lt HC.out
          have hn := blk_set HC.out (60 + j) (.int .u8 (packed kind ws (60 + j) : Int))
          rw [upto_set _ (by omega), packed_sum kind ws] at hn
          have ho := HP.out.setCell (p := ⟨w.heap.size + 1 + 1, 60 + j, none⟩) (.inl rfl) (.int .u8 (sum (body kind ws) 60 / 2 ^ (8 * j) % 256 : Nat))
          have hv : ((sum (body kind ws) 60 / 2 ^ (8 * j) % 256 : Nat) : Int) = (sum (body kind ws) 60 : Int) / 2 ^ (8 * j) % 256 := by
            rw [Int.natCast_emod, Int.natCast_ediv, Int.natCast_pow]; rfl
          rw [hv] at hn ho
          have HN := Lib.hid hn
          have HQ := Lib.hid ho
          clear hn ho hv
          go_wp2
          go_roundg (4 - (j + 1))
          case measure => omega
          case rel => exact ⟨j + 1, by omega, rfl, by go_num, HN, HQ⟩
        · have he : j = 4 := by omega
          subst he
          have hb4 := HC.out
          rw [show 60 + 4 = 64 by omega, upto64] at hb4
          have HB4 := Lib.hid hb4
          have HR := Lib.hid ((HP.out.blk G2.out (by omega)))
          clear hb4
          go_wp2_with (first | (refine wpList_load_row rfl tB (.tmp 3) rfl _ rfl _ _ _ _ HB4.out Tryz.underlying139 rfl (by rw [by64_size]; exact info64) ?_) | (refine wpList_store64 rfl (.tmp 2) (.tmp 48) rfl _ rfl _ _ rfl HR.out ?_))
          have hfin := blk_setRow HR.out (by64 (packed kind ws))
          refine bodyPost_ret (v := .agg (by64 (packed kind ws))) (results_cell_row rfl _ _ _ _ _ _ _ rfl hfin Tryz.underlying139 rfl (by rw [by64_size]; exact info64)) rfl ⟨rfl, ?_⟩
          have h1 : Only Nil w wr := G4.out.trans HP.out (fun i hi hb => by omega)
          exact h1.setRow (.inr (by omega)) _
end Hs
end Go.Proofs.YtnhedhmffgaohaaGreat
