/- The walk of ArenaLives: each round's calls, the map of lives, the stack of places. -/
import Derived.Test.YtnhedhmffgaohaaLvM
import Derived.Test.YtnhedhmffgaohaaArI2
import Derived.Maps.OwnOps
import Derived.Maps.Views
namespace Go.Proofs.Ytnhedhmffgaohaa
open Go.RowKit Go.Maps
namespace Lv
abbrev tU : Nat := 30
abbrev tH : Nat := 32

theorem lawU : Keyed Try.prog tU := int_keyed Try.underlying30
theorem zeroU (w : World) : (zeroValue tU).run Try.prog w = .ok (.int .u32 0) w := by kernel_rfl
theorem infoU : (Try.prog.info? tU).map (fun i => (i.zero, i.size, i.bytes)) = some (some (.int .u32 0), 1, 4) := by kernel_rfl
theorem wfU {i : Nat} (h : i < 4294967296) : (Lit.int .u32 (i : Int)).wf = true := WalkArith.wf_u32 (by omega)
theorem keyU {i : Nat} (h : i < 4294967296) : keyOf Try.prog tU (.int .u32 (i : Int)) = some (.int .u32 (i : Int)) := keyOf_int_mk Try.underlying30 (wfU h)

/-- What stands in memory at a round's head. -/
structure LvS (w wr : World) (A M k : Nat) (s : Ar) (vn vf v7 v9 : Value) (tk : List Hd) (life : Nat → Nat) (D : DataW Unit) : Prop where
  rep : ArI.ArRep wr A s vn vf
  inv : LInv s tk life
  hs : HRow wr v7 tk
  st : wr.ownsRow 0 tU 1 v9 s.free.length (s.free.map fun (i : Nat) => Value.int .u32 (i : Int))
  mp : wr.ownsMap Try.prog tU (plainElem Try.prog tU) M k D
  ml : ∀ i : Nat, i < 4294967296 → D.atKey (.int .u32 (i : Int)) (.lit (.int .u32 0)) = .lit (.int .u32 (life i : Int))
  on : Only Nil w wr
  bA : w.heap.size ≤ A
  bM : w.heap.size ≤ M
  b7 : ∀ b, v7.ownBlock = some b → w.heap.size ≤ b
  b9 : ∀ b, v9.ownBlock = some b → w.heap.size ≤ b
  bn : ∀ b, vn.ownBlock = some b → w.heap.size ≤ b
  bf : ∀ b, vf.ownBlock = some b → w.heap.size ≤ b

def Rel (w : World) (room n A M : Nat) (v7 v9 v10 v11 : Value) (wr : World) : Prop :=
  ∃ (k : Nat) (s : Ar) (vn vf : Value) (tk : List Hd) (life : Nat → Nat) (D : DataW Unit), k ≤ n ∧ v11 = .int .i64 k ∧ v10 = .int .u32 s.nodes.length ∧ s.room = room ∧ LvS w wr A M k s vn vf v7 v9 tk life D


set_option maxRecDepth 100000 in
theorem lookup_at {w : World} {M n : Nat} {D : DataW Unit} (h : w.ownsMap Try.prog tU (plainElem Try.prog tU) M n D) {i c : Nat} (hi : i < 4294967296) (hc : D.atKey (.int .u32 (i : Int)) (.lit (.int .u32 0)) = .lit (.int .u32 (c : Int))) :
    (Instr.lookup 28 (.map (some M)) (.int .u32 (i : Int)) false).run Try.prog w = .ok (.int .u32 (c : Int)) w := by
  obtain ⟨c', hrun, hat, _⟩ := h.lookup_int lawU Try.underlying28 Try.underlying30 (zeroU w) (keyU hi)
  rw [hat] at hc
  injection hc with hc
  injection hc with _ hc
  rw [hrun, hc]
theorem isMap_of {w : World} {M n : Nat} {D : DataW Unit} (h : w.ownsMap Try.prog tU (plainElem Try.prog tU) M n D) : IsMap D := by
  obtain ⟨es, clock, _, _, _, rfl⟩ := h
  exact ⟨_, rfl⟩
theorem ml_put {w : World} {M n : Nat} {D : DataW Unit} (h : w.ownsMap Try.prog tU (plainElem Try.prog tU) M n D) {life : Nat → Nat} {q c : Nat}
    (ml : ∀ i : Nat, i < 4294967296 → D.atKey (.int .u32 (i : Int)) (.lit (.int .u32 0)) = .lit (.int .u32 (life i : Int))) {v : Int} (hv : v = (c : Int)) :
    ∀ i : Nat, i < 4294967296 → (D.put (.int .u32 (q : Int)) (.lit (.int .u32 v))).atKey (.int .u32 (i : Int)) (.lit (.int .u32 0)) = .lit (.int .u32 (upd life q c i : Int)) := by
  intro i hi
  subst hv
  unfold upd
  by_cases e : i = q
  · subst e
    rw [atKey_put_same (isMap_of h) (by simp [WideAt.IsKeyLit]), if_pos rfl]
  · rw [atKey_put_other (by intro e'; injection e' with _ e'; exact e (by omega)), if_neg e]
    exact ml i hi

theorem i64_range {n : Int} (h : (Lit.int .i64 n).wf = true) : -9223372036854775808 ≤ n ∧ n ≤ 9223372036854775807 := by
  simp [Lit.wf, IntKind.min, IntKind.max, IntKind.signed, IntKind.bits] at h
  omega

/-- What a round leaves that took a place. -/
theorem LvS.take {w wr w1 w2 w3 : World} {A M k : Nat} {s s' : Ar} {vn vf vn' vf' v7 v7' v9 v9' : Value} {tk : List Hd} {life : Nat → Nat} {D : DataW Unit} {q l' : Nat} {v : Int} {o1 o2 : Obj} (hS : LvS w wr A M k s vn vf v7 v9 tk life D)
    (hr1 : ArI.ArRep w1 A s' vn' vf') (hI : LInv s' (tk ++ [⟨q, l'⟩]) (upd life q l')) (ho : Only (fun b => b = A ∨ vn.ownBlock = some b) wr w1)
    (hvn : vn'.ownBlock = vn.ownBlock ∨ ∀ b, vn'.ownBlock = some b → wr.heap.size ≤ b) (hvf : vf'.ownBlock = vf.ownBlock) (h9 : v9'.ownBlock = v9.ownBlock)
    (hst1 : w1.ownsRow 0 tU 1 v9' s'.free.length (s'.free.map fun (i : Nat) => Value.int .u32 (i : Int)))
    (hmp1 : w1.ownsMap Try.prog tU (plainElem Try.prog tU) M k D) (hh1 : HRow w1 v7 tk)
    (hown2 : w2.ownsMap Try.prog tU (plainElem Try.prog tU) M (k + 1) (D.put (.int .u32 (q : Int)) (.lit (.int .u32 v)))) (hgrow2 : (w1.alloc o1).grownBy w2 (some M))
    (hml : ∀ i : Nat, i < 4294967296 → (D.put (.int .u32 (q : Int)) (.lit (.int .u32 v))).atKey (.int .u32 (i : Int)) (.lit (.int .u32 0)) = .lit (.int .u32 (upd life q l' i : Int)))
    (hown3 : HRow w3 v7' (tk ++ [⟨q, l'⟩])) (hgrow3 : (w2.alloc o2).grownBy w3 v7.ownBlock) (h7 : ∀ b, v7'.ownBlock = some b → v7.ownBlock = some b ∨ w.heap.size ≤ b) :
    LvS w w3 A M (k + 1) s' vn' vf' v7' v9' (tk ++ [⟨q, l'⟩]) (upd life q l') (D.put (.int .u32 (q : Int)) (.lit (.int .u32 v))) := by
  have hM : Only (fun b => b = M) w1 w2 := ((Only.refl _ w1).alloc o1).grown hgrow2 fun b hb _ => by injection hb with hb; exact hb.symm
  have h3 : Only (fun b => b = M ∨ Row v7 b) w1 w3 := (hM.alloc o2).row hgrow3
  have hty : ∀ b, (b = M ∨ Row v7 b) → ∃ t, Ty w1 b t ∧ t = tH := fun b hb => by
    rcases hb with rfl | hb
    · exact ⟨tH, map_ty hmp1 _, rfl⟩
    · exact ⟨tH, own_ty hh1.own hb, rfl⟩
  refine ⟨?_, hI, hown3, ?_, ?_, hml, ?_, hS.bA, hS.bM, ?_, ?_, ?_, ?_⟩
  · exact hr1.apart h3 fun b hb => by
      obtain ⟨t, ht, rfl⟩ := hty b hb
      exact ⟨tH, ht, by decide, by decide, by decide, by decide⟩
  · exact own_apart hst1 h3 fun b hb => by
      obtain ⟨t, ht, rfl⟩ := hty b hb
      exact ⟨tH, ht, by decide⟩
  · have h23 : Only (Row v7) w2 w3 := ((Only.refl _ w2).alloc o2).grown hgrow3 fun b hb _ => hb
    exact map_only hown2 h23 fun h => map_own_ne hmp1 hh1.own h
  · refine ((hS.on.trans ho ?_).trans h3 ?_)
    · rintro i hi (rfl | h)
      · have := hS.bA; omega
      · have := hS.bn _ h; omega
    · rintro i hi (rfl | h)
      · have := hS.bM; omega
      · have := hS.b7 _ h; omega
  · intro b hb
    rcases h7 b hb with h | h
    · exact hS.b7 _ h
    · exact h
  · intro b hb
    exact hS.b9 b (h9 ▸ hb)
  · intro b hb
    rcases hvn with h | h
    · exact hS.bn b (h ▸ hb)
    · exact Nat.le_trans hS.on.size (h b hb)
  · intro b hb
    exact hS.bf b (hvf ▸ hb)

theorem pick_at {x : Int} {L : Nat} (hx : x < 0) (hL : 0 < L) : ∃ j : Nat, (x + 1).tmod (L : Int) = -(j : Int) ∧ j < L := by
  have h1 : (-(x + 1)).tmod (L : Int) = -(x + 1) % (L : Int) := Int.tmod_eq_emod_of_nonneg (by omega)
  have h2 : 0 ≤ -(x + 1) % (L : Int) := Int.emod_nonneg _ (by omega)
  have h3 : -(x + 1) % (L : Int) < L := Int.emod_lt_of_pos _ (by omega)
  rw [Int.neg_tmod] at h1
  exact ⟨(-(x + 1) % (L : Int)).toNat, by omega, by omega⟩

/-- What a round leaves that dropped a place. -/
theorem LvS.drop {w wr w1 w2 w3 : World} {A M k N nc : Nat} {s s' : Ar} {vf vf' v7 v7' v9 v9' : Value} {tk tk' : List Hd} {life : Nat → Nat} {D : DataW Unit} {o1 o2 : Obj} (hS : LvS w wr A M k s (.slice (some ⟨N, 0, none⟩) s.nodes.length nc) vf v7 v9 tk life D)
    (ho1 : Only Nil (wr.alloc o1) w1) (hh1 : HRow w1 v7' tk') (hb7 : ∀ b, v7'.ownBlock = some b → wr.heap.size + 1 ≤ b) (hr2 : ArI.ArRep w2 A s' (.slice (some ⟨N, 0, none⟩) s.nodes.length nc) vf') (hI : LInv s' tk' life)
    (ho2 : Only (fun b => b = A ∨ b = N ∨ vf.ownBlock = some b) w1 w2) (hvf : vf'.ownBlock = vf.ownBlock ∨ ∀ b, vf'.ownBlock = some b → w1.heap.size ≤ b)
    (hst3 : w3.ownsRow 0 tU 1 v9' s'.free.length (s'.free.map fun (i : Nat) => Value.int .u32 (i : Int))) (hgrow : (w2.alloc o2).grownBy w3 v9.ownBlock) (h9 : ∀ b, v9'.ownBlock = some b → v9.ownBlock = some b ∨ w.heap.size ≤ b) :
    LvS w w3 A M (k + 1) s' (.slice (some ⟨N, 0, none⟩) s.nodes.length nc) vf' v7' v9' tk' life D := by
  have hrep1 := hS.rep.after ho1
  have h01 : Only Nil wr w1 := ((Only.refl _ wr).alloc o1).trans ho1 (fun _ _ h => h)
  have hst1 := own_only hS.st h01 (fun _ _ h => h)
  have hmp1 := map_only hS.mp h01 (fun h => h)
  have hty2 : ∀ b, (b = A ∨ b = N ∨ vf.ownBlock = some b) → Ty w1 b ArI.tA ∨ Ty w1 b ArI.tN ∨ Ty w1 b ArI.tI := fun b hb => by
    rcases hb with rfl | rfl | hb
    · exact .inl (blk_ty hrep1.a)
    · exact .inr (.inl (own_ty hrep1.n rfl))
    · exact .inr (.inr (own_ty hrep1.f hb))
  have hst2 := own_apart hst1 ho2 fun b hb => by
    rcases hty2 b hb with h | h | h
    · exact ⟨_, h, by decide⟩
    · exact ⟨_, h, by decide⟩
    · exact ⟨_, h, by decide⟩
  have hh2 := own_apart hh1.own ho2 fun b hb => by
    rcases hty2 b hb with h | h | h
    · exact ⟨_, h, by decide⟩
    · exact ⟨_, h, by decide⟩
    · exact ⟨_, h, by decide⟩
  have hmp2 := map_only hmp1 ho2 (fun hb => by
    rcases hb with h | h | h
    · exact map_blk_ne hmp1 hrep1.a h
    · exact map_own_ne hmp1 hrep1.n (by rw [h]; rfl)
    · exact map_own_ne hmp1 hrep1.f h)
  have h3 : Only (Row v9) w2 w3 := ((Only.refl _ w2).alloc o2).grown hgrow fun b hb _ => hb
  have hty3 : ∀ b, Row v9 b → Ty w2 b tU := fun b hb => own_ty hst2 hb
  refine ⟨?_, hI, ?_, hst3, ?_, hS.ml, ?_, hS.bA, hS.bM, ?_, ?_, hS.bn, ?_⟩
  · exact hr2.apart h3 fun b hb => ⟨tU, hty3 b hb, by decide, by decide, by decide, by decide⟩
  · exact own_apart hh2 h3 fun b hb => ⟨tU, hty3 b hb, by decide⟩
  · exact (map_only hmp2 h3 (fun h => map_own_ne hmp2 hst2 h)).mono (by omega)
  · refine ((hS.on.trans h01 (fun _ _ h => h)).trans ho2 ?_).trans h3 ?_
    · rintro i hi (rfl | rfl | h)
      · have := hS.bA; omega
      · have := hS.bn i rfl; omega
      · have := hS.bf _ h; omega
    · intro i hi h
      have := hS.b9 _ h; omega
  · intro b hb
    have := hb7 b hb
    have := hS.on.size
    omega
  · intro b hb
    rcases h9 b hb with h | h
    · exact hS.b9 _ h
    · exact h
  · intro b hb
    rcases hvf with h | h
    · exact hS.bf b (h ▸ hb)
    · have := h b hb; have := hS.on.size; have := h01.size; omega

/-- A round that turns nothing old. -/
theorem LvS.same {w wr w1 : World} {A M k : Nat} {s : Ar} {vn vf v7 v9 : Value} {tk : List Hd} {life : Nat → Nat} {D : DataW Unit} (hS : LvS w wr A M k s vn vf v7 v9 tk life D) (ho : Only Nil wr w1) : LvS w w1 A M (k + 1) s vn vf v7 v9 tk life D :=
  ⟨hS.rep.only ho (fun _ _ h => h), hS.inv, own_only hS.hs.own ho (fun _ _ h => h), own_only hS.st ho (fun _ _ h => h), (map_only hS.mp ho (fun h => h)).mono (by omega), hS.ml, hS.on.trans ho (fun _ _ h => h), hS.bA, hS.bM, hS.b7, hS.b9, hS.bn, hS.bf⟩

/-- WHAT THE WALK IS TOLD OF A SLICE OF INTEGERS THAT CAME IN. -/
def IsRow (k : IntKind) (w : World) (a : Option Addr) (len cap : Nat) (zs : List Int) : Prop :=
  (a = none ∧ len = 0 ∧ cap = 0 ∧ zs = []) ∨
  ∃ x, a = some x ∧ len ≤ cap ∧ cap ≤ maxLen ∧ zs.length = cap ∧ (∀ i, i < zs.length → w.cell? (x.add i) = some (.int k (zs.getD i 0))) ∧ ∀ n ∈ zs, (Lit.int k n).wf = true

theorem isRow_at {w : World} {a : Option Addr} {len cap : Nat} {zs : List Int} (h : IsRow .i64 w a len cap zs) {k : Nat} (hk : k < len) :
    ∃ b off x, a = some ⟨b, off, none⟩ ∧ b < w.heap.size ∧ w.cell? ⟨b, off + k, none⟩ = some (.int .i64 x) ∧ -9223372036854775808 ≤ x ∧ x ≤ 9223372036854775807 := by
  rcases h with ⟨_, h0, _⟩ | ⟨x, rfl, h1, h2, h3, h4, h5⟩
  · omega
  · have hc := h4 k (by omega)
    have h0 := h4 0 (by omega)
    obtain ⟨b, off, sp⟩ := x
    have hs : sp = none := by
      cases sp with
      | none => rfl
      | some q => simp [Addr.add, World.cell?] at h0; split at h0 <;> simp at h0
    subst hs
    have hadd : (⟨b, off, none⟩ : Addr).add k = ⟨b, off + k, none⟩ := by unfold Addr.add; split <;> simp_all
    rw [hadd] at hc
    have hw := h5 (zs.getD k 0) (by
      have : k < zs.length := by omega
      rw [List.getD_eq_getElem?_getD, List.getElem?_eq_getElem this]
      exact List.getElem_mem this)
    have hr := i64_range hw
    exact ⟨b, off, _, rfl, World.block_lt_of_cell? w _ hc, hc, hr.1, hr.2⟩
theorem isRow_len {w : World} {a : Option Addr} {len cap : Nat} {zs : List Int} (h : IsRow .i64 w a len cap zs) : len ≤ 9223372036854775807 := by
  rcases h with ⟨_, h0, _⟩ | ⟨x, rfl, h1, h2, _⟩
  · omega
  · unfold maxLen at h2; omega

set_option maxHeartbeats 400000 in
set_option maxRecDepth 100000 in
theorem walk_bad (a0 : Int) (a1 : Option Addr) (len1 cap1 : Nat) (w : World) (h2 : -9223372036854775808 ≤ a0) (h3 : a0 ≤ 9223372036854775807) (h : a0 < 1 ∨ 65536 < a0) :
    Calls Try.prog 3 #[.int .i64 a0, .slice a1 len1 cap1] w fun e w' => e = .returned (.bool true) ∧ Below w.heap.size w w' := by
  have hn := ArI.new_bad a0 w h h2 h3
  have HN := Lib.hid hn
  clear hn
  rcases h with h | h
  · go_enter Try.func3, Try.ntmps3
    go_wp2_with fail
    refine HN.out.mono ?_
    rintro e w1 ⟨rfl, rfl⟩
    go_wp2
    go_ret
    exact ⟨rfl, Below.refl _ _⟩
  · have h4 : ¬ a0 < 1 := by omega
    go_enter Try.func3, Try.ntmps3
    go_wp2_with fail
    refine HN.out.mono ?_
    rintro e w1 ⟨rfl, rfl⟩
    go_wp2
    go_ret
    exact ⟨rfl, Below.refl _ _⟩

set_option maxHeartbeats 4000000 in
set_option maxRecDepth 100000 in
theorem walk_ok (room : Nat) (a1 : Option Addr) (n cap1 : Nat) (z1 : List Int) (w : World) (h1 : 1 ≤ room) (h2 : room ≤ 65536) (hz : IsRow .i64 w a1 n cap1 z1) :
    Calls Try.prog 3 #[.int .i64 room, .slice a1 n cap1] w fun e w' => e = .returned (.bool true) ∧ Below w.heap.size w w' := by
  have hn := ArI.new_ok room w h1 h2
  have HN := Lib.hid hn
  clear hn
  have h3 : ¬ ((room : Int) < 1) := by omega
  have h4 : ¬ (65536 < (room : Int)) := by omega
  have hnl := isRow_len hz
  have hmm := @run_makeMap Try.prog
  obtain ⟨i0, hi0, hz0, hz1, hz2⟩ := info_parts infoH
  obtain ⟨j0, hj0, hy0, hy1, hy2⟩ := info_parts infoU
  go_enter Try.func3, Try.ntmps3
  go_wp2_with fail
  refine HN.out.mono ?_
  rintro e w1 ⟨rfl, rfl⟩
  go_wp2
  have hS0 : LvS w ((((w.alloc (.cells #[.int .i64 room, .slice none 0 0, .slice none 0 0] ArI.tA)).alloc (.cells #[] tH)).alloc (.map #[] 0)).alloc (.cells #[] tU)) w.heap.size (w.heap.size + 1 + 1) 0 ⟨room, [], [], []⟩ (.slice none 0 0) (.slice none 0 0)
      (.slice (some ⟨w.heap.size + 1, 0, none⟩) 0 0) (.slice (some ⟨w.heap.size + 1 + 1 + 1, 0, none⟩) 0 0) [] (fun _ => 0) (.map []) := by
    refine ⟨?_, linv_start room h2, ?_, ?_, ?_, ?_, ?_, ?_, ?_, ?_, ?_, ?_, ?_⟩
    · exact (ArI.new_rep room w).only (S := Nil) ((((Only.refl _ _).alloc _).alloc _).alloc _) (fun _ _ h => h)
    · have := World.ownsRow_lit (base := 0) (e := tH) (size := 2) (w.alloc (.cells #[.int .i64 room, .slice none 0 0, .slice none 0 0] ArI.tA)) #[] 0 (Nat.zero_le _) (by unfold maxLen; omega) rfl
      unfold HRow; simpa using (this.alloc (.map #[] 0)).alloc (.cells #[] tU)
    · have := World.ownsRow_lit (base := 0) (e := tU) (size := 1) (((w.alloc (.cells #[.int .i64 room, .slice none 0 0, .slice none 0 0] ArI.tA)).alloc (.cells #[] tH)).alloc (.map #[] 0)) #[] 0 (Nat.zero_le _) (by unfold maxLen; omega) rfl
      simpa using this
    · have := World.ownsMap_made (H := Unit) ((w.alloc (.cells #[.int .i64 room, .slice none 0 0, .slice none 0 0] ArI.tA)).alloc (.cells #[] tH)) Try.prog tU (plainElem Try.prog tU)
      simpa using this.alloc (.cells #[] tU)
    · intro i _; rfl
    · exact ((((Only.refl _ w).alloc _).alloc _).alloc _).alloc _
    · exact Nat.le_refl _
    · omega
    · intro b hb; simp [Value.ownBlock] at hb; omega
    · intro b hb; simp [Value.ownBlock] at hb; omega
    · intro b hb; simp [Value.ownBlock] at hb
    · intro b hb; simp [Value.ownBlock] at hb
  go_loopw [7, 9, 10, 11] (fun v7 v9 v10 v11 wr => Rel w room n w.heap.size (w.heap.size + 1 + 1) v7 v9 v10 v11 wr) (fun _ _ _ i _ => n - (intOf i).toNat)
  case atStart => exact ⟨0, _, _, _, _, _, _, Nat.zero_le _, rfl, rfl, rfl, hS0⟩
  case round =>
    clear hS0
    obtain ⟨k, s, vn, vf, tk, life, D, hk, rfl, rfl, hsr, hS⟩ := hrel
    have Hsr := Lib.hid hsr
    clear hsr
    by_cases hlt : k < n
    · obtain ⟨b, off, x, ha, hb, hcell, hx1, hx2⟩ := isRow_at hz hlt
      subst ha
      have hcr : wr.cell? ⟨b, off + k, none⟩ = some (.int .i64 x) := (hS.on.cell (p := ⟨b, off + k, none⟩) hb (fun h => h)).trans hcell
      have hsmall := hS.inv.wf.len
      have hroom := hS.inv.wf.room
      have hcnt := hS.inv.cnt
      obtain ⟨A7, c7, rfl, hc7⟩ := own_slice hS.hs.own
      have hway : (x < 0 ∧ 0 < tk.length) ∨ decide (0 ≤ x) = true ∨ (decide (0 ≤ x) = false ∧ ((tk.length : Int) == 0) = true) := by
        by_cases hx : 0 ≤ x
        · exact .inr (.inl (by simpa using hx))
        · by_cases h0 : tk.length = 0
          · exact .inr (.inr ⟨by simpa using hx, by simp [h0]⟩)
          · exact .inl ⟨by omega, by omega⟩
      rcases hway with ⟨hxn, hpos⟩ | hxb | ⟨hxb, hzb⟩
      · have hx0 : decide (0 ≤ x) = false := by simp; omega
        have hz0' : ((tk.length : Int) == 0) = false := beq_eq_false_iff_ne.2 (by omega)
        have hpos' : (1 : Int) ≤ tk.length := by omega
        obtain ⟨j, hj, hjl⟩ := pick_at hxn hpos
        obtain ⟨g7, c7', e7, hg7, _, _⟩ := own_row hS.hs.own hpos
        injection e7 with e7 _ e7'
        subst e7
        subst e7'
        obtain ⟨h, hh⟩ : ∃ h, tk[j]? = some h := ⟨_, List.getElem?_eq_getElem hjl⟩
        obtain ⟨hi, hf⟩ := h
        obtain ⟨hh1, hh2⟩ := hS.hs.cell hh
        simp only at hh1 hh2
        have hmem := List.mem_of_getElem? hh
        obtain ⟨d, hd, hdt, hdl⟩ := hS.inv.hold _ hmem
        simp only at hd hdl
        have hdi : hi < s.nodes.length := (List.getElem?_eq_some_iff.1 hd).1
        have hdq := hS.inv.noq d (List.mem_of_getElem? hd)
        have hI := linv_drop hS.inv hmem hd (.int .i64 0)
        simp only at hI
        subst hdl
        have htl : tk.length ≤ 65536 := by omega
        have hwo := fun W (h : HRow W (.slice (some ⟨g7, 0, none⟩) tk.length c7) tk) => without_any (.slice (some ⟨g7, 0, none⟩) tk.length c7) tk hi d.life W h htl
        obtain ⟨N, nc, rfl, hN, hnc, hAN⟩ := hS.rep.row (by omega)
        have hdr := fun W (h : ArI.ArRep W w.heap.size s (.slice (some ⟨N, 0, none⟩) s.nodes.length nc) vf) => ArI.drop_ok w.heap.size N nc hi s vf d W h hS.inv.wf hd hdt hdq
        have HWo := Lib.hid hwo
        have HDr := Lib.hid hdr
        have HI := Lib.hid hI
        have Hcnt := Lib.hid hcnt
        have HDd := Lib.hid hd
        have Hdq := Lib.hid hdq
        have Hht := Lib.hid hh
        have Hmem := Lib.hid hmem
        have Hhd := Lib.hid hdt
        clear hwo hdr hI hcnt hd hdq hh hmem hdt
        obtain ⟨A9, c9, rfl, hc9⟩ := own_slice hS.st
        have hfl65 : s.free.length ≤ 65536 := by have := Hcnt.out; omega
        go_wp2_with fail
        refine (HWo.out _ (hS.hs.own.alloc _)).mono ?_
        rintro e w1 ⟨r7, rfl, hw7, hb7, ho1⟩
        have hbox := box_after' ho1
        have hB0 := blk_cell hbox 0
        have hB1 := blk_cell hbox 1
        have hBlt := blk_lt hbox
        simp only [List.getElem?_toArray, List.getElem?_cons_zero, List.getElem?_cons_succ] at hB0 hB1
        go_wp2_with fail
        refine (HDr.out _ (hS.rep.after ho1)).mono ?_
        rintro e w2 ⟨rfl, vf', hr2, hvf, ho2⟩
        have hbox2 := blk_apart hbox ho2 (fun b hb => by
          rcases hb with rfl | rfl | hb
          · exact ⟨_, blk_ty (hS.rep.after ho1).a, by decide⟩
          · exact ⟨_, own_ty (hS.rep.after ho1).n rfl, by decide⟩
          · exact ⟨_, own_ty (hS.rep.after ho1).f hb, by decide⟩)
        have hC0 := blk_cell hbox2 0
        have hClt := blk_lt hbox2
        simp only [List.getElem?_toArray, List.getElem?_cons_zero] at hC0
        have hst1 := own_only (own_only hS.st ((Only.refl Nil _).alloc (.cells #[.int .u32 hi, .int .u32 d.life] tH)) (fun _ _ h => h)) ho1 (fun _ _ h => h)
        have hst2 := own_apart hst1 ho2 (fun b hb => by
          rcases hb with rfl | rfl | hb
          · exact ⟨_, blk_ty (hS.rep.after ho1).a, by decide⟩
          · exact ⟨_, own_ty (hS.rep.after ho1).n rfl, by decide⟩
          · exact ⟨_, own_ty (hS.rep.after ho1).f hb, by decide⟩)
        clear hB0 hB1 hh1 hh2
        go_wp2_with (at_builtin; (refine wpList_append_lies _ rfl (.tmp 132) (.tmp 135) _ rfl 0 tU j0 _ 1 4 Try.underlying29 hj0 hy0 hy1 hy2 rfl (by omega) (.slice A9 s.free.length c9) s.free.length _ rfl (World.ownsRow.alloc hst2 _) ⟨w2.heap.size, 0, none⟩ 1 1 [.int .u32 hi] rfl rfl (World.news_of_block (blk_new' _ _ _ (by simp))) (by simp [Value.oneCell']) (by omega) (by unfold maxLen; omega) (by omega) (by omega) _ rfl ?_); intro g9 cap9 w3 hown3 hgrow3 hat3 hlt3)
        have hs01 := ho1.size
        simp only [World.size_alloc] at hs01
        have hs12 := ho2.size
        have hnew := hS.drop ho1 hw7 (fun b hb => by have := hb7 b hb; simpa using this) hr2 HI.out ho2 hvf (v9' := .slice (some ⟨g9, 0, none⟩) (s.free.length + 1) cap9) (by simpa using hown3) hgrow3 (fun b hb => by
            have : g9 = b := by simpa [Value.ownBlock] using hb
            subst this
            rcases hat3 with h | h
            · exact .inl h
            · right; have := hS.on.size; simp at h; omega)
        obtain ⟨A7, c7'', rfl, hc7''⟩ := own_slice hw7.own
        go_roundw
        case rel =>
          refine ⟨k + 1, _, _, _, _, _, _, by omega, by go_num, ?_, ?_, hnew⟩
          · simp
          · exact Hsr.out
        case measure => simp [intOf]; omega
      all_goals
        rcases List.eq_nil_or_concat s.free with hfr | ⟨fr, q, hfr0⟩
        · by_cases hfull : s.nodes.length = s.room
          · have ht := ArI.take2 w.heap.size s vn vf k wr hS.rep hS.inv.wf hfr hfull
            have htl := linv_full hS.inv hfr hfull
            have hbe : ((tk.length : Int) != (room : Int)) = false := by rw [htl, Hsr.out]; simp
            have HT := Lib.hid ht
            clear ht hfr hfull htl hcnt
            go_wp2_with fail
            refine HT.out.mono ?_
            rintro e w1 ⟨rfl, ho⟩
            have hnew := hS.same (ho.alloc (.cells #[.int .u32 0, .int .u32 0] tH))
            go_wp2
            go_roundw
            case rel => exact ⟨k + 1, _, _, _, _, _, _, by omega, by go_num, rfl, Hsr.out, hnew⟩
            case measure => simp [intOf]; omega
          · have hlt3 : s.nodes.length < s.room := by omega
            obtain ⟨q, hq⟩ : ∃ q, q = s.nodes.length := ⟨_, rfl⟩
            have hq65 : q ≤ 65536 := by omega
            have ht := ArI.take3 w.heap.size s vn vf k wr hS.rep hS.inv.wf hfr hlt3
            have hI := linv_take3 hS.inv hlt3 (.int .i64 k)
            have hlfq := hS.inv.lf q
            rw [hq, List.getElem?_eq_none (Nat.le_refl _), ← hq] at hlfq
            simp only [Option.map_none, Option.getD_none] at hlfq
            have hnl : (s.nodes ++ [nd0 [.int .i64 (k : Int)]]).length = q + 1 := by simp [hq]
            rw [← hq] at ht hI
            have hst := hS.st
            rw [hfr] at hst
            obtain ⟨A9, c9, e9, hc9⟩ := own_slice hst
            have HT := Lib.hid ht
            have HI := Lib.hid hI
            have Hlf := Lib.hid hlfq
            have Hfr := Lib.hid hfr
            have Hcnt := Lib.hid hcnt
            have Hnl := Lib.hid hnl
            have Hq := Lib.hid hq
            clear ht hI hlfq hcnt hnl hfull hlt3 hfr
            subst e9
            rw [← hq]
            clear hq
            go_wp2_with fail
            refine HT.out.mono ?_
            rintro e w1 ⟨rfl, vn', hr1, hvn, ho⟩
            have hb7 := hS.hs.own
            have hA7 : (Value.slice A7 tk.length c7).ownBlock ≠ some w.heap.size := own_blk_ne hb7 hS.rep.a (by decide)
            have hn7 : ∀ k', (Value.slice A7 tk.length c7).ownBlock = some k' → vn.ownBlock ≠ some k' := fun k' hk' => own_own_ne hb7 hS.rep.n (by decide) hk'
            have hh1 := own_only hb7 ho (fun k' hk' hS' => by rcases hS' with h | h; exact hA7 (by rw [hk', h]); exact hn7 k' hk' h)
            have hA9 : (Value.slice A9 0 c9).ownBlock ≠ some w.heap.size := own_blk_ne hst hS.rep.a (by decide)
            have hst1 := own_only hst ho (fun k' hk' hS' => by
              rcases hS' with h | h
              · exact hA9 (by rw [← h]; exact hk')
              · exact own_own_ne hst hS.rep.n (by decide) hk' h)
            have hmA := map_blk_ne hS.mp hS.rep.a
            have hmN := map_own_ne hS.mp hS.rep.n
            have hmp1 := map_only hS.mp ho (fun h => by rcases h with h | h; exact hmA h; exact hmN h)
            have hlk : ∀ o, (Instr.lookup 28 (.map (some (w.heap.size + 1 + 1))) (.int .u32 (q : Int)) false).run Try.prog (w1.alloc o) = .ok (.int .u32 (life q : Int)) (w1.alloc o) :=
              fun o => lookup_at (hmp1.alloc o) (by omega) (hS.ml q (by omega))
            have hMlt := hmp1.lt
            have hml2 := ml_put hmp1 (q := q) (c := 1) hS.ml (v := ((life q : Int) + 1) % 4294967296) (by rw [Hlf.out]; rfl)
            have hml2q := hml2 q (by omega)
            rw [show upd life q 1 q = 1 from if_pos rfl] at hml2q
            have Hml2q := Lib.hid hml2q
            have HmlA := Lib.hid hml2
            clear hml2q hml2
            have htl : tk.length ≤ 65536 := by have := Hcnt.out; omega
            have hA7b := fun k' hk' => own_lt hh1 (k := k') hk'
            go_wp2_with (first
              | (at_mapUpdate; (refine wpList_mapUpdate_own _ rfl _ _ _ 28 rfl tU tU lawU Try.underlying28 _ (w.heap.size + 1 + 1) k _ rfl (hmp1.alloc _) (by unfold maxLen; omega) _ _ _ rfl rfl (keyU (by omega)) _ [] (plainElem_int Try.underlying30 (WalkArith.wf_u32 (by omega))) ?_); intro w2 hown2 hgrow2
                 have hbox2 := blk_grown (blk_new w1 (.cells #[.int .u32 q, .int .u32 1] tH)) hgrow2 (fun e => by injection e with e; omega)
                 have hlk2 := lookup_at hown2 (by omega) Hml2q.out
                 have hB0 := blk_cell hbox2 0
                 have hB1 := blk_cell hbox2 1
                 have hBlt := blk_lt hbox2
                 have hh2 := own_heap (World.ownsRow.alloc hh1 (.cells #[.int .u32 q, .int .u32 1] tH)) rfl (fun k' hk' => hgrow2.block k' (own_lt (World.ownsRow.alloc hh1 (.cells #[.int .u32 q, .int .u32 1] tH)) hk') (fun e => map_own_ne hmp1 hh1 (by rw [hk', e])))
                 simp only [List.getElem?_toArray, List.getElem?_cons_zero, List.getElem?_cons_succ] at hB0 hB1)
              | (at_builtin; (refine wpList_append_lies _ rfl (.tmp 108) (.tmp 110) _ rfl 0 tH i0 _ 2 8 Try.underlying27 hi0 hz0 hz1 hz2 rfl (by omega) (.slice A7 tk.length c7) tk.length _ rfl (World.ownsRow.alloc hh2 _) ⟨w2.heap.size, 0, none⟩ 1 1 (Hd.cells ⟨q, 1⟩) rfl rfl (World.news_of_block (blk_new' _ _ _ (by simp))) (by simp [Hd.cells, Value.oneCell']) (by omega) (bytesH _ htl).1 (bytesH _ htl).2 (by omega) _ rfl ?_); intro g7 cap7 w3 hown3 hgrow3 hat3 hlt3))
            have hst' : w1.ownsRow 0 tU 1 (.slice A9 0 c9) s.free.length (s.free.map fun (i : Nat) => Value.int .u32 (i : Int)) := by rw [Hfr.out]; exact hst1
            have hown3' : HRow w3 (.slice (some ⟨g7, 0, none⟩) (tk.length + 1) cap7) (tk ++ [⟨q, 1⟩]) := by unfold HRow; simpa using hown3
            have hnew := hS.take hr1 HI.out ho hvn rfl (v9' := .slice A9 0 c9) rfl hst' hmp1 hh1 hown2 hgrow2 HmlA.out hown3' hgrow3 (fun b hb => by
              have : g7 = b := by simpa [Value.ownBlock] using hb
              subst this
              rcases hat3 with h | h
              · exact .inl h
              · right; have := hS.on.size; have := ho.size; have := hgrow2.size; simp at this h; omega)
            go_roundw
            case rel =>
              refine ⟨k + 1, _, _, _, _, _, _, by omega, by go_num, ?_, ?_, hnew⟩
              · simp only [Hnl.out]; go_num
              · exact Hsr.out
            case measure => simp [intOf]; omega
        · have hfr : s.free = fr ++ [q] := by simpa using hfr0
          clear hfr0
          have hq : q < s.nodes.length := hS.inv.wf.free q (by rw [hfr]; simp)
          obtain ⟨d, hd⟩ : ∃ d, s.nodes[q]? = some d := ⟨_, List.getElem?_eq_getElem hq⟩
          obtain ⟨l', hl'⟩ : ∃ l' : Nat, l' = (d.life + 1) % 4294967296 := ⟨_, rfl⟩
          have hll : l' < 4294967296 := by omega
          have hst := hS.st
          rw [hfr, List.length_append, List.length_singleton] at hst
          obtain ⟨f9, c9, e9, hf9, hc9, hc9'⟩ := own_row hst (by omega)
          have ht := ArI.take1 w.heap.size s vn vf k q d fr wr hS.rep hS.inv.wf hfr hd
          have hfl : fr.length + 1 ≤ 65536 := by rw [hfr] at hcnt; simp at hcnt; omega
          have hI := linv_take1 hS.inv hfr hd (.int .i64 k)
          have hlfq := hS.inv.lf q
          rw [hd] at hlfq
          simp only [Option.map_some, Option.getD_some] at hlfq
          rw [← cast_mod32 (d.life + 1), ← hl'] at ht
          rw [← hl'] at hI
          have HT := Lib.hid ht
          have HI := Lib.hid hI
          have Hfr := Lib.hid hfr
          have Hl' := Lib.hid hl'
          have Hlf := Lib.hid hlfq
          have HDd := Lib.hid hd
          have Hcnt := Lib.hid hcnt
          clear ht hI hfr hl' hlfq hd hcnt
          subst e9
          go_wp2_with fail
          refine HT.out.mono ?_
          rintro e w1 ⟨rfl, vf', hr1, hvf, ho⟩
          have hS1 := hS
          have hb7 := hS.hs.own
          have hA7 : (Value.slice A7 tk.length c7).ownBlock ≠ some w.heap.size := own_blk_ne hb7 hS.rep.a (by decide)
          have hn7 : ∀ k', (Value.slice A7 tk.length c7).ownBlock = some k' → vn.ownBlock ≠ some k' := fun k' hk' => own_own_ne hb7 hS.rep.n (by decide) hk'
          have hh1 := own_only hb7 ho (fun k' hk' hS' => by rcases hS' with h | h; exact hA7 (by rw [hk', h]); exact hn7 k' hk' h)
          have hA9 : f9 ≠ w.heap.size := ob_ne' (own_blk_ne hst hS.rep.a (by decide))
          have hn9 : vn.ownBlock ≠ some f9 := own_own_ne hst hS.rep.n (by decide) rfl
          have hst1 := own_only hst ho (fun k' hk' hS' => by
            have : f9 = k' := by simpa [Value.ownBlock] using hk'
            subst this
            rcases hS' with h | h; exact hA9 h; exact hn9 h)
          have hmA := map_blk_ne hS.mp hS.rep.a
          have hmN := map_own_ne hS.mp hS.rep.n
          have hmp1 := map_only hS.mp ho (fun h => by rcases h with h | h; exact hmA h; exact hmN h)
          have hlk : ∀ o, (Instr.lookup 28 (.map (some (w.heap.size + 1 + 1))) (.int .u32 (q : Int)) false).run Try.prog (w1.alloc o) = .ok (.int .u32 (life q : Int)) (w1.alloc o) :=
            fun o => lookup_at (hmp1.alloc o) (by omega) (hS.ml q (by omega))
          have hf9c : w1.cell? ⟨f9, fr.length, none⟩ = some (.int .u32 (q : Int)) := own_cell hst1 (by simp)
          have hf9l := own_lt hst1 (k := f9) rfl
          have hMlt := hmp1.lt
          have hml2 := ml_put hmp1 (q := q) (c := l') hS.ml (v := ((life q : Int) + 1) % 4294967296) (by rw [Hlf.out, Hl'.out]; omega)
          have hml2q := hml2 q (by omega)
          rw [show upd life q l' q = l' from if_pos rfl] at hml2q
          have Hml2q := Lib.hid hml2q
          have HmlA := Lib.hid hml2
          clear hml2q hml2
          have htl : tk.length ≤ 65536 := by have := Hcnt.out; omega
          have hA7b := fun k' hk' => own_lt hh1 (k := k') hk'
          go_wp2_with (first
            | (at_mapUpdate; (refine wpList_mapUpdate_own _ rfl _ _ _ 28 rfl tU tU lawU Try.underlying28 _ (w.heap.size + 1 + 1) k _ rfl (hmp1.alloc _) (by unfold maxLen; omega) _ _ _ rfl rfl (keyU (by omega)) _ [] (plainElem_int Try.underlying30 (WalkArith.wf_u32 (by omega))) ?_); intro w2 hown2 hgrow2
               have hbox2 := blk_grown (blk_new w1 (.cells #[.int .u32 q, .int .u32 l'] tH)) hgrow2 (fun e => by injection e with e; omega)
               have hlk2 := lookup_at hown2 (by omega) Hml2q.out
               have hB0 := blk_cell hbox2 0
               have hB1 := blk_cell hbox2 1
               have hBlt := blk_lt hbox2
               have hh2 := own_heap (World.ownsRow.alloc hh1 (.cells #[.int .u32 q, .int .u32 l'] tH)) rfl (fun k' hk' => hgrow2.block k' (own_lt (World.ownsRow.alloc hh1 (.cells #[.int .u32 q, .int .u32 l'] tH)) hk') (fun e => map_own_ne hmp1 hh1 (by rw [hk', e])))
               simp only [List.getElem?_toArray, List.getElem?_cons_zero, List.getElem?_cons_succ] at hB0 hB1)
            | (at_builtin; (refine wpList_append_lies _ rfl (.tmp 108) (.tmp 110) _ rfl 0 tH i0 _ 2 8 Try.underlying27 hi0 hz0 hz1 hz2 rfl (by omega) (.slice A7 tk.length c7) tk.length _ rfl (World.ownsRow.alloc hh2 _) ⟨w2.heap.size, 0, none⟩ 1 1 (Hd.cells ⟨q, l'⟩) rfl rfl (World.news_of_block (blk_new' _ _ _ (by simp))) (by simp [Hd.cells, Value.oneCell']) (by omega) (bytesH _ htl).1 (bytesH _ htl).2 (by omega) _ rfl ?_); intro g7 cap7 w3 hown3 hgrow3 hat3 hlt3))
          have hst' := own_cut hst1 (m := fr.length) (by omega) (by omega)
          rw [Nat.mul_one, List.map_append, List.take_left' (by simp)] at hst'
          have hown3' : HRow w3 (.slice (some ⟨g7, 0, none⟩) (tk.length + 1) cap7) (tk ++ [⟨q, l'⟩]) := by unfold HRow; simpa using hown3
          have hnew := hS.take hr1 HI.out ho (.inl rfl) hvf (v9' := .slice (some ⟨f9, 0, none⟩) fr.length c9) rfl hst' hmp1 hh1 hown2 hgrow2 HmlA.out hown3' hgrow3 (fun b hb => by
            have : g7 = b := by simpa [Value.ownBlock] using hb
            subst this
            rcases hat3 with h | h
            · exact .inl h
            · right; have := hS.on.size; have := ho.size; have := hgrow2.size; simp at this h; omega)
          have hnl : s.nodes.length = (s.nodes.set q (d.take [.int .i64 k])).length := by simp
          have Hnl := Lib.hid hnl
          clear hnl
          go_roundw
          case rel =>
            refine ⟨k + 1, _, _, _, _, _, _, by omega, by go_num, ?_, ?_, hnew⟩
            · rw [Hnl.out]
            · exact Hsr.out
          case measure => simp [intOf]; omega
    · have hl := fun W (h : ArI.ArRep W w.heap.size s vn vf) => ArI.len_any w.heap.size s vn vf W h hS.inv.wf
      have hc := hS.inv.cnt
      obtain ⟨A7, c7, rfl, hc7⟩ := own_slice hS.hs.own
      have hbe : (((s.nodes.length - s.free.length : Nat) : Int) == (tk.length : Int)) = true := by simp; omega
      have HL := Lib.hid hl
      clear hl hc
      generalize s.nodes.length - s.free.length = m at *
      go_wp2_with fail
      refine (HL.out _ hS.rep).mono ?_
      rintro e w1 ⟨rfl, m', rfl⟩
      go_wp2
      go_ret
      exact ⟨rfl, (hS.on.drewN _).toBelow⟩
end Lv
end Go.Proofs.Ytnhedhmffgaohaa
