/- A frame's bytes: the document's Bytes and Pack. -/
import Derived.Test.YtnhedhmffgaohaaGreatHp
import Derived.Deep.RegionHeld3
namespace Go.Proofs.YtnhedhmffgaohaaGreat
open Go.RowKit
theorem own_mk {w : World} {base g c n size : Nat} {e : TypeId} {cs : Array Value} (h : w.heap[g]? = some (.cells cs e (0, 0))) (hb : base ≤ g) (hc : cs.size = c * size) (hn : n ≤ c) (hm : c ≤ maxLen) :
    w.ownsRow base e size (.slice (some ⟨g, 0, none⟩) n c) n (cs.toList.take (n * size)) :=
  ⟨by rw [List.length_take, Array.length_toList, hc]; exact Nat.min_eq_left (Nat.mul_le_mul_right _ hn), .inr ⟨g, c, cs, rfl, hb, h, hn, hm, hc, rfl⟩⟩
theorem own_ge {w : World} {base g c n size : Nat} {e : TypeId} {xs : List Value} (h : w.ownsRow base e size (.slice (some ⟨g, 0, none⟩) n c) n xs) : base ≤ g := by
  rcases h.2 with ⟨h2, _⟩ | ⟨g', cap, cur, hv, hb, _⟩
  · cases h2
  · injection hv with h1 _ _
    injection h1 with h1
    injection h1 with h1 _
    subst h1
    exact hb
theorem own_mono {w : World} {base base' n size : Nat} {e : TypeId} {v : Value} {xs : List Value} (h : w.ownsRow base e size v n xs) (hb : base' ≤ base) : w.ownsRow base' e size v n xs :=
  ⟨h.1, h.2.imp id fun ⟨g, cap, cur, h1, h2, h3⟩ => ⟨g, cap, cur, h1, Nat.le_trans hb h2, h3⟩⟩
namespace Hs
abbrev tU8 : Nat := 5
abbrev tBs : Nat := 39
def u8s (n : Nat) (F : Nat → Nat) : List Value := (List.range n).map fun k => .int .u8 (F k : Int)
theorem u8s_len (n : Nat) (F : Nat → Nat) : (u8s n F).length = n := by simp [u8s]
theorem u8s_get {n k : Nat} (F : Nat → Nat) (h : k < n) : (u8s n F)[k]? = some (.int .u8 (F k : Int)) := by simp [u8s, h]
theorem u8s_snoc (n : Nat) (F : Nat → Nat) : u8s n F ++ [.int .u8 (F n : Int)] = u8s (n + 1) F := by simp [u8s, List.range_succ]
theorem u8s_congr {n : Nat} {F G : Nat → Nat} (h : ∀ k, k < n → F k = G k) : u8s n F = u8s n G := List.map_congr_left fun k hk => by rw [h k (List.mem_range.1 hk)]
theorem infoU8 : (Tryz.prog.info? tU8).map (fun i => (i.zero, i.size, i.bytes)) = some (some (.int .u8 0), 1, 1) := by kernel_rfl
theorem body_word (kind : Nat) (ws : Nat → Nat) {i j : Nat} (hj : j < 8) : body kind ws (4 + 8 * i + j) = ws i / 2 ^ (8 * j) % 256 := by
  unfold body
  rw [if_neg (by omega), if_neg (by omega), if_neg (by omega), if_neg (by omega), show (4 + 8 * i + j - 4) / 8 = i by omega, show (4 + 8 * i + j - 4) % 8 = j by omega]

set_option maxHeartbeats 800000 in
set_option maxRecDepth 100000 in
theorem bytes_ref (kind : Nat) (ws : Nat → Nat) (w : World) :
    Calls Tryz.prog 101 #[frameV kind ws] w fun e w' => (∃ g c, e = .returned (.slice (some ⟨g, 0, none⟩) 60 c) ∧ w.heap.size ≤ g ∧ w'.ownsRow w.heap.size tU8 1 (.slice (some ⟨g, 0, none⟩) 60 c) 60 (u8s 60 (body kind ws))) ∧ Only Nil w w' := by
  obtain ⟨i0, hi0, hz0, hz1, hz2⟩ := info_parts infoU8
  unfold frameV
  go_enter Tryz.func101, Tryz.ntmps101
  go_wp2
  have f0 : Only Nil w (w.alloc (.cells #[.int .u8 (kind : Int), .int .u64 (ws 0 : Int), .int .u64 (ws 1 : Int), .int .u64 (ws 2 : Int), .int .u64 (ws 3 : Int), .int .u64 (ws 4 : Int), .int .u64 (ws 5 : Int), .int .u64 (ws 6 : Int)] tF)) := (Only.refl _ _).alloc _
  have f1 := blk_new w (.cells #[.int .u8 (kind : Int), .int .u64 (ws 0 : Int), .int .u64 (ws 1 : Int), .int .u64 (ws 2 : Int), .int .u64 (ws 3 : Int), .int .u64 (ws 4 : Int), .int .u64 (ws 5 : Int), .int .u64 (ws 6 : Int)] tF)
  have f2 : (w.alloc (.cells #[.int .u8 (kind : Int), .int .u64 (ws 0 : Int), .int .u64 (ws 1 : Int), .int .u64 (ws 2 : Int), .int .u64 (ws 3 : Int), .int .u64 (ws 4 : Int), .int .u64 (ws 5 : Int), .int .u64 (ws 6 : Int)] tF)).heap.size = w.heap.size + 1 := by simp
  generalize w.alloc (.cells #[.int .u8 (kind : Int), .int .u64 (ws 0 : Int), .int .u64 (ws 1 : Int), .int .u64 (ws 2 : Int), .int .u64 (ws 3 : Int), .int .u64 (ws 4 : Int), .int .u64 (ws 5 : Int), .int .u64 (ws 6 : Int)] tF) = W at *
  have f3 := blk_new W (.cells #[.int .u8 66, .int .u8 70, .int .u8 (kind : Int), .int .u8 0] tU8)
  have f4 := blk_alloc f1 (.cells #[.int .u8 66, .int .u8 70, .int .u8 (kind : Int), .int .u8 0] tU8)
  have f5 := f0.alloc (.cells #[.int .u8 66, .int .u8 70, .int .u8 (kind : Int), .int .u8 0] tU8)
  generalize W.alloc (.cells #[.int .u8 66, .int .u8 70, .int .u8 (kind : Int), .int .u8 0] tU8) = W1 at *
  have f6 := own_mk (base := w.heap.size + 1) (size := 1) (n := 4) (c := 4) f3 (by omega) rfl (by omega) (by unfold maxLen; omega)
  rw [f2] at f6
  have f7 : (#[Value.int .u8 66, .int .u8 70, .int .u8 (kind : Int), .int .u8 0].toList.take (4 * 1)) = u8s 4 (body kind ws) := rfl
  rw [f7] at f6
  have F4 := Lib.hid f4
  have F5 := Lib.hid f5
  have F6 := Lib.hid f6
  clear f0 f1 f2 f3 f4 f5 f6 f7
  go_loopg [3, 4] 7 (fun m v3 v4 wr => ∃ i g c : Nat, i ≤ 7 ∧ m = 7 - i ∧ v4 = .int .i64 i ∧ v3 = .slice (some ⟨g, 0, none⟩) (4 + 8 * i) c ∧ Hid (wr.ownsRow (w.heap.size + 1) tU8 1 (.slice (some ⟨g, 0, none⟩) (4 + 8 * i) c) (4 + 8 * i) (u8s (4 + 8 * i) (body kind ws))) ∧
    Hid (wr.heap[w.heap.size]? = some (.cells #[.int .u8 (kind : Int), .int .u64 (ws 0 : Int), .int .u64 (ws 1 : Int), .int .u64 (ws 2 : Int), .int .u64 (ws 3 : Int), .int .u64 (ws 4 : Int), .int .u64 (ws 5 : Int), .int .u64 (ws 6 : Int)] tF (0, 0))) ∧ Hid (Only Nil w wr))
  case atStart => exact ⟨0, _, _, by omega, by omega, rfl, rfl, F6, F4, F5⟩
  case round =>
    obtain ⟨i, g, c, hi, hg, rfl, rfl, HR, HF, HO⟩ := hrel
    clear F4 F5 F6
    by_cases hlt : i < 7
    · have hiI : (i : Int) < 7 := by omega
      go_wp2
      go_loopg [3, 5] 8 (fun m v3 v5 wi => ∃ j g c : Nat, j ≤ 8 ∧ m = 8 - j ∧ v5 = .int .i64 j ∧ v3 = .slice (some ⟨g, 0, none⟩) (4 + 8 * i + j) c ∧ Hid (wi.ownsRow (w.heap.size + 1) tU8 1 (.slice (some ⟨g, 0, none⟩) (4 + 8 * i + j) c) (4 + 8 * i + j) (u8s (4 + 8 * i + j) (body kind ws))) ∧
        Hid (wi.heap[w.heap.size]? = some (.cells #[.int .u8 (kind : Int), .int .u64 (ws 0 : Int), .int .u64 (ws 1 : Int), .int .u64 (ws 2 : Int), .int .u64 (ws 3 : Int), .int .u64 (ws 4 : Int), .int .u64 (ws 5 : Int), .int .u64 (ws 6 : Int)] tF (0, 0))) ∧ Hid (Only Nil w wi))
      case atStart => exact ⟨0, _, _, by omega, by omega, rfl, rfl, HR, HF, HO⟩
      case round =>
        obtain ⟨j, g', c', hj, hgj, rfl, rfl, HS, HG, HP⟩ := hrel
        clear HR HF HO
        by_cases hj8 : j < 8
        · have hjI : (j : Int) < 8 := by omega
          have hc : wr.cell? ⟨w.heap.size, 1 + i, none⟩ = some (.int .u64 (ws i : Int)) := by
            rw [blk_cell HG.out]
            match i, hlt with
            | 0, _ => rfl
            | 1, _ => rfl
            | 2, _ => rfl
            | 3, _ => rfl
            | 4, _ => rfl
            | 5, _ => rfl
            | 6, _ => rfl
          have hl := blk_lt HG.out
          have hv : (ws i : Int) / 2 ^ (8 * j) % 256 = ((body kind ws (4 + 8 * i + j) : Nat) : Int) := by
            rw [body_word kind ws hj8, Int.natCast_emod, Int.natCast_ediv, Int.natCast_pow]; rfl
          have Hsn := Lib.hid (u8s_snoc (4 + 8 * i + j) (body kind ws))
          go_wp2_with (at_builtin; (refine wpList_append_lies _ rfl (.tmp 17) (.tmp 26) _ rfl (w.heap.size + 1) tU8 i0 _ 1 1 Tryz.underlying39 hi0 hz0 hz1 hz2 rfl (by omega) (.slice (some ⟨g', 0, none⟩) (4 + 8 * i + j) c') (4 + 8 * i + j) _ rfl (HS.out.alloc _) ⟨wr.heap.size, 0, none⟩ 1 1 [.int .u8 (body kind ws (4 + 8 * i + j) : Int)] rfl rfl (World.news_of_block (blk_new' _ _ _ rfl)) (by simp [Value.oneCell']) (by omega) (by unfold maxLen; omega) (by omega) (by simp; omega) _ rfl ?_); intro f cap w1 hown hgrow hat hlt2)
          rw [Hsn.out] at hown
          have HN := Lib.hid hown
          have HF2 := Lib.hid (blk_grown (blk_alloc HG.out _) hgrow (ob_ne (by have := own_ge HS.out; omega)))
          have HO2 := Lib.hid ((HP.out.alloc _).grown hgrow (fun k hk _ => by have := own_ge HS.out; simp [Value.ownBlock] at hk; omega))
          clear hown hgrow hat HS HG HP
          go_wp2
          go_roundg (8 - (j + 1))
          case measure => omega
          case rel => exact ⟨j + 1, f, cap, by omega, rfl, by go_num, rfl, HN, HF2, HO2⟩
        · have he : j = 8 := by omega
          subst he
          go_wp2
          go_roundg (7 - (i + 1))
          case measure => omega
          case rel => exact ⟨i + 1, _, _, by omega, rfl, by go_num, rfl, HS, HG, HP⟩
    · have he : i = 7 := by omega
      subst he
      go_wp2
      go_ret
      exact ⟨⟨_, _, rfl, by have := own_ge HR.out; omega, own_mono HR.out (by omega)⟩, HO.out⟩

set_option maxHeartbeats 800000 in
set_option maxRecDepth 100000 in
theorem pack_ref (kind : Nat) (ws : Nat → Nat) (w : World) (hk : kind < 256) :
    Calls Tryz.prog 66 #[frameV kind ws] w fun e w' => e = .returned (.agg (by64 (packed kind ws))) ∧ Only Nil w w' := by
  have HB := Lib.hid (fun W => bytes_ref kind ws W)
  unfold frameV at HB
  unfold frameV
  go_enter Tryz.func66, Tryz.ntmps66
  go_wp2_with (refine wpList_alloc64 rfl rfl ?_)
  refine (HB.out _).mono ?_
  rintro e w1 ⟨⟨g, c, rfl, hg, hown⟩, ho⟩
  simp only [World.size_alloc] at hg hown
  have h1 : Only Nil w w1 := (((Only.refl Nil w).alloc _).alloc _).trans ho (fun _ _ h => h)
  have h2 := ho.blk (blk_new' (w.alloc (.cells #[.int .u8 (kind : Int), .int .u64 (ws 0 : Int), .int .u64 (ws 1 : Int), .int .u64 (ws 2 : Int), .int .u64 (ws 3 : Int), .int .u64 (ws 4 : Int), .int .u64 (ws 5 : Int), .int .u64 (ws 6 : Int)] tF)) (.cells (by64 zer) tB) (w.heap.size + 1) (by simp)) (fun h => h)
  have hsh : Hs.Shows w1 g 0 60 (body kind ws) := fun k hk => by
    rw [Nat.zero_add]
    exact own_cell hown (u8s_get _ hk)
  have HS := Lib.hid (sum_ref g 0 60 c (body kind ws) w1 (body_lt hk) (own_lt hown rfl) (by omega) hsh)
  have H1 := Lib.hid h1
  have H2 := Lib.hid h2
  have HO := Lib.hid hown
  have hc60 : 60 ≤ c := by
    obtain ⟨_, _, e, hc⟩ := own_slice hown
    injection e with _ _ e
    omega
  clear h1 h2 ho hown hsh HB
  go_wp2_with fail
  refine HS.out.mono ?_
  rintro e w2 ⟨rfl, rfl⟩
  clear HS
  go_upto_region 4 with (refine wpList_alloc64 rfl rfl ?_)
  simp only [Act.put]
  have HW := Lib.hid (H1.out.alloc (.cells (by64 zer) tB))
  have H2' := Lib.hid (blk_alloc H2.out (.cells (by64 zer) tB))
  have H3' := Lib.hid (blk_new w2 (.cells (by64 zer) tB))
  have HO' := Lib.hid (HO.out.alloc (.cells (by64 zer) tB))
  have hsz := H1.out.size
  have hlt1 := blk_lt H2.out
  have hglt := own_lt HO.out (k := g) rfl
  generalize hB : w2.heap.size = B at *
  generalize w2.alloc (.cells (by64 zer) tB) = W at *
  clear H1 H2 HO
  have hz : by64 zer = by64 (upto 0 (packed kind ws)) := by64_congr fun k _ => by unfold zer upto; rw [if_neg (by omega)]
  rw [hz] at H3'
  clear hz hB
  go_wp2
  go_loopg [6] 60 (fun m v6 wr => ∃ i : Nat, i ≤ 60 ∧ m = 60 - i ∧ v6 = .int .i64 i ∧ Hid (wr.heap[B]? = some (.cells (by64 (upto i (packed kind ws))) tB (0, 0))) ∧ Hid (Only (fun b => b = B) W wr))
  case atStart => exact ⟨0, by omega, by omega, rfl, H3', Lib.hid (Only.refl _ _)⟩
  case round =>
    obtain ⟨i, hi, hgi, rfl, HC, HP⟩ := hrel
    clear H3'
    by_cases hlt : i < 60
    · have hiI : (i : Int) < 60 := by omega
      have hc := (blk_cell HC.out i).trans (by64_get (i := i) _ (by omega))
      have hf := blk_frozen HC.out i
      have hl := blk_lt HC.out
      have hs : wr.cell? ⟨g, i, none⟩ = some (.int .u8 (packed kind ws i : Int)) := by
        rw [HP.out.cell (p := ⟨g, i, none⟩) (own_lt HO'.out rfl) (by simp only; omega), own_cell HO'.out (u8s_get _ hlt), packed_body hlt]
      have hgl : g < wr.heap.size := Nat.lt_of_lt_of_le (own_lt HO'.out rfl) HP.out.size
      have hn := blk_set HC.out i (.int .u8 (packed kind ws i : Int))
      rw [upto_set _ (by omega)] at hn
      have HN := Lib.hid hn
      have HQ := Lib.hid (HP.out.setCell (p := ⟨B, i, none⟩) (.inl rfl) (.int .u8 (packed kind ws i : Int)))
      clear hn
      go_wp2
      go_roundg (60 - (i + 1))
      case measure => omega
      case rel => exact ⟨i + 1, by omega, rfl, by go_num, HN, HQ⟩
    · have he : i = 60 := by omega
      subst he
      go_wp2
      go_loopg [7] 4 (fun m v7 wi => ∃ j : Nat, j ≤ 4 ∧ m = 4 - j ∧ v7 = .int .i64 j ∧ Hid (wi.heap[B]? = some (.cells (by64 (upto (60 + j) (packed kind ws))) tB (0, 0))) ∧ Hid (Only (fun b => b = B) W wi))
      case atStart => exact ⟨0, by omega, by omega, rfl, HC, HP⟩
      case round =>
        obtain ⟨j, hj, hgj, rfl, HE, HQ⟩ := hrel
        clear HC HP
        by_cases hj4 : j < 4
        · have hjI : (j : Int) < 4 := by omega
          have hc := (blk_cell HE.out (60 + j)).trans (by64_get (i := 60 + j) _ (by omega))
          have hf := blk_frozen HE.out (60 + j)
          have hl := blk_lt HE.out
          have hn := blk_set HE.out (60 + j) (.int .u8 (packed kind ws (60 + j) : Int))
          rw [upto_set _ (by omega), packed_sum kind ws] at hn
          have ho := HQ.out.setCell (p := ⟨B, 60 + j, none⟩) (.inl rfl) (.int .u8 (sum (body kind ws) 60 / 2 ^ (8 * j) % 256 : Nat))
          have hv : ((sum (body kind ws) 60 / 2 ^ (8 * j) % 256 : Nat) : Int) = (sum (body kind ws) 60 : Int) / 2 ^ (8 * j) % 256 := by
            rw [Int.natCast_emod, Int.natCast_ediv, Int.natCast_pow]; rfl
          rw [hv] at hn ho
          have HN := Lib.hid hn
          have HR := Lib.hid ho
          clear hn ho hv
          go_wp2
          go_roundg (4 - (j + 1))
          case measure => omega
          case rel => exact ⟨j + 1, by omega, rfl, by go_num, HN, HR⟩
        · have he : j = 4 := by omega
          subst he
          have hb4 := HE.out
          rw [show 60 + 4 = 64 by omega, upto64] at hb4
          have HB4 := Lib.hid hb4
          have HR := Lib.hid ((HQ.out.blk H2'.out (by omega)))
          clear hb4
          go_wp2_with (first | (refine wpList_load_row rfl tB (.tmp 5) rfl _ rfl _ _ _ _ HB4.out Tryz.underlying139 rfl (by rw [by64_size]; exact info64) ?_) | (refine wpList_store64 rfl (.tmp 2) (.tmp 38) rfl _ rfl _ _ rfl HR.out ?_))
          have hfin := blk_setRow HR.out (by64 (packed kind ws))
          refine bodyPost_ret (v := .agg (by64 (packed kind ws))) (results_cell_row rfl _ _ _ _ _ _ _ rfl hfin Tryz.underlying139 rfl (by rw [by64_size]; exact info64)) rfl ⟨rfl, ?_⟩
          have h1 : Only Nil w wr := HW.out.trans HQ.out (fun i hi hb => by omega)
          exact h1.setRow (.inr (by omega)) _
end Hs
end Go.Proofs.YtnhedhmffgaohaaGreat
