/- A history's frames: frame, head, the document's frame; a clone of bytes. -/
import Derived.Test.YtnhedhmffgaohaaGreatHq
import Derived.ArgAppend
import Derived.WalkSpells
import Derived.Laws.IdiomCopy
import Derived.Laws.CopyOwn
namespace Go.Proofs.YtnhedhmffgaohaaGreat
open Go.RowKit
namespace Hs
abbrev tU64 : Nat := 24
theorem own_empty {W : World} {base : Nat} (e : TypeId) (h : base ≤ W.heap.size) : (W.alloc (.cells #[] e)).ownsRow base e 1 (.slice (some ⟨W.heap.size, 0, none⟩) 0 0) 0 [] :=
  own_mk (c := 0) (n := 0) (blk_new W (.cells #[] e)) h rfl (by omega) (by unfold maxLen; omega)
theorem by64_list (P : Nat → Nat) : (by64 P).toList = u8s 64 P := by simp [by64, u8s]
theorem news64 {W : World} {b : Nat} {P : Nat → Nat} (h : W.heap[b]? = some (.cells (by64 P) tB (0, 0))) (j : Nat) (u : Value) (hu : (u8s 64 P)[j]? = some u) : W.cell? ((⟨b, 0, none⟩ : Addr).add j) = some u := by
  rw [show (⟨b, 0, none⟩ : Addr).add j = ⟨b, 0 + j, none⟩ from by unfold Addr.add; split <;> simp_all, Nat.zero_add, blk_cell h, ← Array.getElem?_toList, by64_list]
  exact hu
theorem u8s_one (n : Nat) (F : Nat → Nat) : ∀ u ∈ u8s n F, u.oneCell' = true := by
  intro u hu
  simp [u8s] at hu
  obtain ⟨k, _, rfl⟩ := hu
  rfl
def w4 (a b c d : Nat) (i : Nat) : Nat := if i = 0 then a else if i = 1 then b else if i = 2 then c else if i = 3 then d else 0

theorem frameV4 (kind a b c d : Nat) : frameV kind (w4 a b c d) = .agg #[.int .u8 (kind : Int), .int .u64 (a : Int), .int .u64 (b : Int), .int .u64 (c : Int), .int .u64 (d : Int), .int .u64 0, .int .u64 0, .int .u64 0] := by simp [frameV, w4]
set_option maxHeartbeats 800000 in
set_option maxRecDepth 100000 in
theorem frame4 (kind a b c d g : Nat) (w : World) (hk : kind < 256) (h : w.heap[g]? = some (.cells #[.int .u64 (a : Int), .int .u64 (b : Int), .int .u64 (c : Int), .int .u64 (d : Int)] tU64 (0, 0))) :
    Calls Tryz.prog 64 #[.int .u8 (kind : Int), .slice (some ⟨g, 0, none⟩) 4 4] w fun e w' => (∃ r, e = .returned (.slice (some ⟨r, 0, none⟩) 64 64) ∧ w.heap.size ≤ r ∧ w'.heap[r]? = some (.cells (by64 (packed kind (w4 a b c d))) tB (0, 0))) ∧ Only Nil w w' := by
  have c0 := blk_cell h 0
  have c1 := blk_cell h 1
  have c2 := blk_cell h 2
  have c3 := blk_cell h 3
  have hl := blk_lt h
  simp only [List.getElem?_toArray, List.getElem?_cons_zero, List.getElem?_cons_succ] at c0 c1 c2 c3
  clear h
  go_enter Tryz.func64, Tryz.ntmps64
  go_wp2_with (refine wpList_copy_splice rfl (.tmp 10) (.tmp 11) 56 56 rfl tU64 Tryz.underlying56 (by kernel_rfl) (some ⟨w.heap.size, 1, none⟩) (some ⟨g, 0, none⟩) 7 7 4 4 rfl rfl w.heap.size 1 [.int .u8 (kind : Int), .int .u64 0, .int .u64 0, .int .u64 0, .int .u64 0, .int .u64 0, .int .u64 0, .int .u64 0] tF (blk_new w _) [.int .u64 (a : Int), .int .u64 (b : Int), .int .u64 (c : Int), .int .u64 (d : Int)] rfl ?_ (by simp) ?_ w.heap.size w ((Below.refl _ _).alloc (Nat.le_refl _) _) (Nat.le_refl _) ?_)
  case refine_1 =>
    intro j v hv
    match j, hv with
    | 0, hv => simp at hv; subst hv; simpa using c0
    | 1, hv => simp at hv; subst hv; simpa using c1
    | 2, hv => simp at hv; subst hv; simpa using c2
    | 3, hv => simp at hv; subst hv; simpa using c3
    | k + 4, hv => simp at hv
  case refine_2 =>
    intro v hv
    simp at hv
    rcases hv with rfl | rfl | rfl | rfl <;> rfl
  intro w1 hg1 hb1
  have hg1 : w1.heap[w.heap.size]? = some (.cells #[.int .u8 (kind : Int), .int .u64 (a : Int), .int .u64 (b : Int), .int .u64 (c : Int), .int .u64 (d : Int), .int .u64 0, .int .u64 0, .int .u64 0] tF (0, 0)) := hg1.out
  have ho1 : Only Nil w w1 := Only.of_below hb1 _
  have hp := pack_prog kind (w4 a b c d) w1 hk
  rw [frameV4] at hp
  have HP := Lib.hid hp
  have HO := Lib.hid ho1
  have d0 := blk_cell hg1 0
  have d1 := blk_cell hg1 1
  have d2 := blk_cell hg1 2
  have d3 := blk_cell hg1 3
  have d4 := blk_cell hg1 4
  have d5 := blk_cell hg1 5
  have d6 := blk_cell hg1 6
  have d7 := blk_cell hg1 7
  have dl := blk_lt hg1
  simp only [List.getElem?_toArray, List.getElem?_cons_zero, List.getElem?_cons_succ] at d0 d1 d2 d3 d4 d5 d6 d7
  clear hp ho1 hb1 hg1 c0 c1 c2 c3
  go_wp2_with fail
  refine HP.out.mono ?_
  rintro e w2 ⟨rfl, ho2⟩
  clear d0 d1 d2 d3 d4 d5 d6 d7
  go_wp2_with (first | (refine wpList_alloc64 rfl rfl ?_) | (refine wpList_store64 rfl (.tmp 6) (.tmp 14) rfl _ rfl _ _ rfl (heap_alloc_new _ _) ?_))
  go_ret
  exact ⟨⟨_, rfl, Nat.le_trans HO.out.size ho2.size, blk_setRow (blk_new w2 _) _⟩, ((HO.out.trans ho2 (fun _ _ h => h)).alloc _).setRow (.inr (Nat.le_trans HO.out.size ho2.size)) _⟩

set_option maxHeartbeats 800000 in
set_option maxRecDepth 100000 in
theorem head_any (cap meet each : Nat) (w : World) (h1 : cap ≤ 4096) (h2 : meet ≤ 3) (h3 : each ≤ 1024) :
    Calls Tryz.prog 37 #[.agg #[.int .i64 (cap : Int), .int .i64 (meet : Int), .int .i64 (each : Int)]] w fun e w' => (∃ r, e = .returned (.slice (some ⟨r, 0, none⟩) 64 64) ∧ w.heap.size ≤ r ∧ w'.heap[r]? = some (.cells (by64 (packed 112 (w4 1 cap meet each))) tB (0, 0))) ∧ Only Nil w w' := by
  have HF := Lib.hid (fun g W hg => frame4 112 1 cap meet each g W (by omega) hg)
  go_enter Tryz.func37, Tryz.ntmps37
  go_wp2_with fail
  refine (HF.out _ _ (blk_new' _ _ _ (by simp))).mono ?_
  rintro e w2 ⟨⟨r, rfl, hr, hb⟩, ho2⟩
  simp only [World.size_alloc] at hr
  go_wp2
  go_ret
  exact ⟨⟨r, rfl, by omega, hb⟩, (((Only.refl Nil w).alloc _).alloc _).trans ho2 (fun _ _ h => h)⟩

set_option maxHeartbeats 800000 in
set_option maxRecDepth 100000 in
theorem frame_ref (kind : Nat) (ws : Nat → Nat) (w : World) (hk : kind < 256) :
    Calls Tryz.prog 39 #[frameV kind ws] w fun e w' => (∃ g c, e = .returned (.slice (some ⟨g, 0, none⟩) 64 c) ∧ w.heap.size ≤ g ∧ w'.ownsRow w.heap.size tU8 1 (.slice (some ⟨g, 0, none⟩) 64 c) 64 (u8s 64 (packed kind ws))) ∧ Only Nil w w' := by
  obtain ⟨i0, hi0, hz0, hz1, hz2⟩ := info_parts infoU8
  have HP := Lib.hid (fun W => pack_ref kind ws W hk)
  unfold frameV at HP
  unfold frameV
  go_enter Tryz.func39, Tryz.ntmps39
  go_wp2_with fail
  refine (HP.out _).mono ?_
  rintro e w2 ⟨rfl, ho2⟩
  go_upto_region 2 with (first | (refine wpList_alloc64 rfl rfl ?_) | (refine wpList_store64 rfl (.tmp 3) (.tmp 5) rfl _ rfl _ _ rfl (heap_alloc_new _ _) ?_))
  simp only [Act.put]
  have hb := blk_setRow (blk_new w2 (.cells (by64 zer) tB)) (by64 (packed kind ws))
  have ho3 : Only Nil w ((w2.alloc (.cells (by64 zer) tB)).setRow w2.heap.size (by64 (packed kind ws))) := ((((Only.refl Nil w).alloc _).trans ho2 (fun _ _ h => h)).alloc _).setRow (.inr (by have := ho2.size; simp at this; omega)) _
  generalize (w2.alloc (.cells (by64 zer) tB)).setRow w2.heap.size (by64 (packed kind ws)) = W at *
  have hE := own_empty (W := W) (base := w.heap.size) tU8 ho3.size
  have hbA := blk_alloc hb (.cells #[] tU8)
  have HB := Lib.hid hb
  have HE := Lib.hid hE
  have HA := Lib.hid hbA
  have HO := Lib.hid ho3
  clear hb hE hbA ho3 ho2
  go_wp2_with (at_builtin; (refine wpList_append_lies _ rfl (.tmp 6) (.tmp 7) _ rfl w.heap.size tU8 i0 _ 1 1 Tryz.underlying39 hi0 hz0 hz1 hz2 rfl (by omega) (.slice (some ⟨W.heap.size, 0, none⟩) 0 0) 0 [] rfl HE.out ⟨w2.heap.size, 0, none⟩ 64 64 (u8s 64 (packed kind ws)) rfl (u8s_len _ _) (news64 HA.out) (u8s_one _ _) (by omega) (by unfold maxLen; omega) (by omega) (by have := HO.out.size; simp; omega) _ rfl ?_); intro f cap w3 hown hgrow hat hlt)
  go_ret
  have hf := own_ge hown
  simp only [Nat.zero_add, List.nil_append] at hown
  refine ⟨⟨f, cap, rfl, hf, hown⟩, (HO.out.alloc _).grown hgrow (fun k hk hl => ?_)⟩
  have := HO.out.size
  simp [Value.ownBlock] at hk
  omega
end Hs
end Go.Proofs.YtnhedhmffgaohaaGreat
