/- (Printed by wip/gen/asked.py.) A history of no events: what the law asks of it. -/
import Derived.Test.YtnhedhmffgaohaaGreatHD
import Derived.Deep.RegionHeld3
import Derived.Deep.CutRange
namespace Go.Proofs.YtnhedhmffgaohaaGreat
open Go.RowKit
namespace Hs
abbrev tAsk : Nat := 26
abbrev zEv : Obj := .cells #[.int .u64 0, .int .i64 0, .int .u64 0, .int .u64 0, .int .u64 0, .int .u32 0, .int .i64 0, .int .i64 0, .int .i64 0, .int .u64 0, .int .u64 0, .int .i64 0, .int .i64 0] tEv
abbrev zLf : Obj := .cells #[.int .u64 0, .int .u64 0, .int .u64 0, .int .u64 0, .int .u64 0, .int .u64 0, .int .i64 0, .int .u64 0] tLf
abbrev zBk : Obj := .cells #[.int .i64 0, .int .i64 0, .slice none 0 0, .slice none 0 0, .int .u64 0, .int .u64 0] Ck.tBk
theorem only_set13 {W w : World} {b : Nat} (h : Only Nil W w) (hb : W.heap.size ≤ b) (v0 v1 v2 v3 v4 v5 v6 v7 v8 v9 v10 v11 v12 : Value) : Only Nil W (((((((((((((w.setCell ⟨b, 0, none⟩ v0).setCell ⟨b, 1, none⟩ v1).setCell ⟨b, 2, none⟩ v2).setCell ⟨b, 3, none⟩ v3).setCell ⟨b, 4, none⟩ v4).setCell ⟨b, 5, none⟩ v5).setCell ⟨b, 6, none⟩ v6).setCell ⟨b, 7, none⟩ v7).setCell ⟨b, 8, none⟩ v8).setCell ⟨b, 9, none⟩ v9).setCell ⟨b, 10, none⟩ v10).setCell ⟨b, 11, none⟩ v11).setCell ⟨b, 12, none⟩ v12) := (((((((((((((h.setCell (p := ⟨b, 0, none⟩) (.inr hb) v0).setCell (p := ⟨b, 1, none⟩) (.inr hb) v1).setCell (p := ⟨b, 2, none⟩) (.inr hb) v2).setCell (p := ⟨b, 3, none⟩) (.inr hb) v3).setCell (p := ⟨b, 4, none⟩) (.inr hb) v4).setCell (p := ⟨b, 5, none⟩) (.inr hb) v5).setCell (p := ⟨b, 6, none⟩) (.inr hb) v6).setCell (p := ⟨b, 7, none⟩) (.inr hb) v7).setCell (p := ⟨b, 8, none⟩) (.inr hb) v8).setCell (p := ⟨b, 9, none⟩) (.inr hb) v9).setCell (p := ⟨b, 10, none⟩) (.inr hb) v10).setCell (p := ⟨b, 11, none⟩) (.inr hb) v11).setCell (p := ⟨b, 12, none⟩) (.inr hb) v12)
theorem blk_set13 {w : World} {b : Nat} {t : TypeId} {z0 z1 z2 z3 z4 z5 z6 z7 z8 z9 z10 z11 z12 : Value} (h : w.heap[b]? = some (.cells #[z0, z1, z2, z3, z4, z5, z6, z7, z8, z9, z10, z11, z12] t (0, 0))) (v0 v1 v2 v3 v4 v5 v6 v7 v8 v9 v10 v11 v12 : Value) : (((((((((((((w.setCell ⟨b, 0, none⟩ v0).setCell ⟨b, 1, none⟩ v1).setCell ⟨b, 2, none⟩ v2).setCell ⟨b, 3, none⟩ v3).setCell ⟨b, 4, none⟩ v4).setCell ⟨b, 5, none⟩ v5).setCell ⟨b, 6, none⟩ v6).setCell ⟨b, 7, none⟩ v7).setCell ⟨b, 8, none⟩ v8).setCell ⟨b, 9, none⟩ v9).setCell ⟨b, 10, none⟩ v10).setCell ⟨b, 11, none⟩ v11).setCell ⟨b, 12, none⟩ v12).heap[b]? = some (.cells #[v0, v1, v2, v3, v4, v5, v6, v7, v8, v9, v10, v11, v12] t (0, 0)) := by
  have := (blk_set (blk_set (blk_set (blk_set (blk_set (blk_set (blk_set (blk_set (blk_set (blk_set (blk_set (blk_set (blk_set h 0 v0) 1 v1) 2 v2) 3 v3) 4 v4) 5 v5) 6 v6) 7 v7) 8 v8) 9 v9) 10 v10) 11 v11) 12 v12)
  simpa using this
theorem only_set8 {W w : World} {b : Nat} (h : Only Nil W w) (hb : W.heap.size ≤ b) (v0 v1 v2 v3 v4 v5 v6 v7 : Value) : Only Nil W ((((((((w.setCell ⟨b, 0, none⟩ v0).setCell ⟨b, 1, none⟩ v1).setCell ⟨b, 2, none⟩ v2).setCell ⟨b, 3, none⟩ v3).setCell ⟨b, 4, none⟩ v4).setCell ⟨b, 5, none⟩ v5).setCell ⟨b, 6, none⟩ v6).setCell ⟨b, 7, none⟩ v7) := ((((((((h.setCell (p := ⟨b, 0, none⟩) (.inr hb) v0).setCell (p := ⟨b, 1, none⟩) (.inr hb) v1).setCell (p := ⟨b, 2, none⟩) (.inr hb) v2).setCell (p := ⟨b, 3, none⟩) (.inr hb) v3).setCell (p := ⟨b, 4, none⟩) (.inr hb) v4).setCell (p := ⟨b, 5, none⟩) (.inr hb) v5).setCell (p := ⟨b, 6, none⟩) (.inr hb) v6).setCell (p := ⟨b, 7, none⟩) (.inr hb) v7)
theorem blk_set8 {w : World} {b : Nat} {t : TypeId} {z0 z1 z2 z3 z4 z5 z6 z7 : Value} (h : w.heap[b]? = some (.cells #[z0, z1, z2, z3, z4, z5, z6, z7] t (0, 0))) (v0 v1 v2 v3 v4 v5 v6 v7 : Value) : ((((((((w.setCell ⟨b, 0, none⟩ v0).setCell ⟨b, 1, none⟩ v1).setCell ⟨b, 2, none⟩ v2).setCell ⟨b, 3, none⟩ v3).setCell ⟨b, 4, none⟩ v4).setCell ⟨b, 5, none⟩ v5).setCell ⟨b, 6, none⟩ v6).setCell ⟨b, 7, none⟩ v7).heap[b]? = some (.cells #[v0, v1, v2, v3, v4, v5, v6, v7] t (0, 0)) := by
  have := (blk_set (blk_set (blk_set (blk_set (blk_set (blk_set (blk_set (blk_set h 0 v0) 1 v1) 2 v2) 3 v3) 4 v4) 5 v5) 6 v6) 7 v7)
  simpa using this
theorem only_set6 {W w : World} {b : Nat} (h : Only Nil W w) (hb : W.heap.size ≤ b) (v0 v1 v2 v3 v4 v5 : Value) : Only Nil W ((((((w.setCell ⟨b, 0, none⟩ v0).setCell ⟨b, 1, none⟩ v1).setCell ⟨b, 2, none⟩ v2).setCell ⟨b, 3, none⟩ v3).setCell ⟨b, 4, none⟩ v4).setCell ⟨b, 5, none⟩ v5) := ((((((h.setCell (p := ⟨b, 0, none⟩) (.inr hb) v0).setCell (p := ⟨b, 1, none⟩) (.inr hb) v1).setCell (p := ⟨b, 2, none⟩) (.inr hb) v2).setCell (p := ⟨b, 3, none⟩) (.inr hb) v3).setCell (p := ⟨b, 4, none⟩) (.inr hb) v4).setCell (p := ⟨b, 5, none⟩) (.inr hb) v5)
theorem blk_set6 {w : World} {b : Nat} {t : TypeId} {z0 z1 z2 z3 z4 z5 : Value} (h : w.heap[b]? = some (.cells #[z0, z1, z2, z3, z4, z5] t (0, 0))) (v0 v1 v2 v3 v4 v5 : Value) : ((((((w.setCell ⟨b, 0, none⟩ v0).setCell ⟨b, 1, none⟩ v1).setCell ⟨b, 2, none⟩ v2).setCell ⟨b, 3, none⟩ v3).setCell ⟨b, 4, none⟩ v4).setCell ⟨b, 5, none⟩ v5).heap[b]? = some (.cells #[v0, v1, v2, v3, v4, v5] t (0, 0)) := by
  have := (blk_set (blk_set (blk_set (blk_set (blk_set (blk_set h 0 v0) 1 v1) 2 v2) 3 v3) 4 v4) 5 v5)
  simpa using this
theorem about0' (P B cap meet each id : Nat) (w : World) (h : H0 w P B cap meet each) : Calls Tryz.prog 28 #[.pointer (some ⟨P, 0, none⟩), .int .u64 (id : Int)] w fun e w' => e = .returned (.slice none 0 0) ∧ Only Nil w w' :=
  (about0 P B cap meet each id w h).mono fun _ _ ⟨h1, h2⟩ => ⟨h1, h2 ▸ Only.refl _ _⟩
theorem numbers0o (w : World) : Calls Tryz.prog 17 #[.slice none 0 0, .slice none 0 0] w fun e w' => e = .returned (.bool true) ∧ Only Nil w w' :=
  (numbers0 w).mono fun _ _ ⟨h1, h2⟩ => ⟨h1, h2 ▸ Only.refl _ _⟩
def bkx (a b : Int) (b1 b2 : Option Addr) : Array Value := #[.int .i64 a, .int .i64 b, .slice b1 0 0, .slice b2 0 0, .int .u64 0, .int .u64 0]
/-- what stands behind the first k statements of a sequence -/
def behind : Nat → Code → Code
  | 0, c => c
  | k + 1, .seq _ b => behind k b
  | _, c => c

set_option maxHeartbeats 40000000 in
set_option maxRecDepth 100000 in
theorem asked_c (X P B cap meet each n fr tt id : Nat) (side c' m' code : Int) (w : World) (h : M0 w X P B cap meet each) (hf : Ck.fit cap meet = true)
    (hbp : ∀ W, Only Nil w W → Calls Tryz.prog 21 #[.pointer (some ⟨P, 0, none⟩), .int .u64 (n : Int)] W fun e w' => e = .returned (.tuple #[.agg (Ck.bk0 c' m'), .int .i64 code]) ∧ Only Nil W w')
    (hbr : ∀ W, Calls Tryz.prog 22 #[.agg (rh0 cap meet each), .int .u64 (n : Int)] W fun e w' => (∃ b1 b2, e = .returned (.tuple #[.agg (bkx c' m' b1 b2), .int .i64 code])) ∧ Only Nil W w')
    (S : Nat) (W : World) (bHE : Nat) (bHF : Nat) (bHJ : Nat) (bHK : Nat) (b1 b2 : Option Addr) (bHL : Nat) (bHM : Nat) (u31 u32 u33 u34 u35 u36 u37 u38 u39 u40 u41 u42 u43 u44 u45 u46 u47 u48 u49 u50 u51 u52 u53 u54 u55 u56 u57 u58 u59 u60 u61 u62 u63 u64 u65 u66 u67 u68 u69 u70 u71 u72 u73 u74 u75 u76 u77 u78 u79 u80 u81 u82 u83 u84 u85 u86 u87 u88 u89 u90 u91 u92 u93 u94 u95 u96 u97 u98 u99 u100 u101 u102 u103 u104 u105 u106 u107 u108 u109 u110 u111 u112 u113 u114 u115 u116 u117 u118 u119 u120 u121 u122 u123 u124 u125 u126 u127 u128 u129 u130 u131 u132 u133 u134 u135 u136 u137 u138 u139 u140 u141 u142 u143 u144 u145 u146 u147 u148 u149 u150 u151 u152 u153 u154 u155 u156 u157 u158 u159 u160 u161 u162 u163 u164 u165 u166 u167 u168 u169 u170 u171 u172 u173 u174 u175 u176 u177 u178 u179 u180 u181 u182 u183 u184 u185 u186 u187 u188 u189 u190 u191 u192 u193 u194 u195 u196 u197 u198 u199 u200 u201 u202 u203 u204 u205 u206 u207 u208 u209 u210 u211 u212 u213 u214 u215 u216 u217 u218 u219 u220 u221 u222 u223 u224 u225 u226 u227 u228 u229 u230 u231 u232 u233 u234 u235 u236 u237 u238 u239 u240 u241 u242 u243 u244 : Value)
    (HX : Hid (W.heap[X]? = some (.cells #[.pointer (some ⟨P, 0, none⟩), .int .i64 (cap : Int), .int .i64 (meet : Int), .int .i64 (each : Int), .slice none 0 0] tPr (0, 0)))) (HA : Hid (W.heap[S]? = some (.cells #[.int .u64 (n : Int), .int .u64 (fr : Int), .int .u64 (tt : Int), .int .u64 (id : Int), .int .i64 side] tAsk (0, 0)))) (HE : Hid (W.heap[bHE]? = some (.cells #[.int .u64 0, .int .i64 0, .int .u64 0, .int .u64 0, .int .u64 0, .int .u32 0, .int .i64 0, .int .i64 0, .int .i64 0, .int .u64 0, .int .u64 0, .int .i64 0, .int .i64 0] tEv (0, 0)))) (HF : Hid (W.heap[bHF]? = some (.cells #[.int .u64 0, .int .i64 0, .int .u64 0, .int .u64 0, .int .u64 0, .int .u32 0, .int .i64 0, .int .i64 0, .int .i64 0, .int .u64 0, .int .u64 0, .int .i64 0, .int .i64 0] tEv (0, 0)))) (HJ : Hid (W.heap[bHJ]? = some (.cells #[.int .i64 c', .int .i64 m', .slice none 0 0, .slice none 0 0, .int .u64 0, .int .u64 0] Ck.tBk (0, 0)))) (HK : Hid (W.heap[bHK]? = some (.cells #[.int .i64 c', .int .i64 m', .slice b1 0 0, .slice b2 0 0, .int .u64 0, .int .u64 0] Ck.tBk (0, 0)))) (HL : Hid (W.heap[bHL]? = some (.cells #[.int .u64 0, .int .u64 0, .int .u64 0, .int .u64 0, .int .u64 0, .int .u64 0, .int .i64 0, .int .u64 0] tLf (0, 0)))) (HM : Hid (W.heap[bHM]? = some (.cells #[.int .u64 0, .int .u64 0, .int .u64 0, .int .u64 0, .int .u64 0, .int .u64 0, .int .i64 0, .int .u64 0] tLf (0, 0)))) (HO : Hid (Only Nil w W)) :
    Code.wp Tryz.prog (behind 12 (Tryz.f9.body.getD .skip)) (bodyPost Tryz.prog Tryz.f9 fun e w' => e = .returned (.bool true) ∧ Only Nil w w') ⟨#[.pointer (some ⟨X, 0, none⟩), .agg #[.int .u64 (n : Int), .int .u64 (fr : Int), .int .u64 (tt : Int), .int .u64 (id : Int), .int .i64 side], undef, .pointer (some ⟨S, 0, none⟩), .bool false, .pointer (some ⟨bHE, 0, none⟩), .int .i64 300, .pointer (some ⟨bHF, 0, none⟩), .int .i64 300, .pointer (some ⟨bHJ, 0, none⟩), .int .i64 code, .pointer (some ⟨bHK, 0, none⟩), .int .i64 code, .int .i64 0, .int .i64 0, .int .u64 0, .bool false, .int .u64 0, .bool false, .pointer (some ⟨bHL, 0, none⟩), .bool false, .pointer (some ⟨bHM, 0, none⟩), .bool false, undef, undef, undef, undef, undef, undef, undef, undef, u31, u32, u33, u34, u35, u36, u37, u38, u39, u40, u41, u42, u43, u44, u45, u46, u47, u48, u49, u50, u51, u52, u53, u54, u55, u56, u57, u58, u59, u60, u61, u62, u63, u64, u65, u66, u67, u68, u69, u70, u71, u72, u73, u74, u75, u76, u77, u78, u79, u80, u81, u82, u83, u84, u85, u86, u87, u88, u89, u90, u91, u92, u93, u94, u95, u96, u97, u98, u99, u100, u101, u102, u103, u104, u105, u106, u107, u108, u109, u110, u111, u112, u113, u114, u115, u116, u117, u118, u119, u120, u121, u122, u123, u124, u125, u126, u127, u128, u129, u130, u131, u132, u133, u134, u135, u136, u137, u138, u139, u140, u141, u142, u143, u144, u145, u146, u147, u148, u149, u150, u151, u152, u153, u154, u155, u156, u157, u158, u159, u160, u161, u162, u163, u164, u165, u166, u167, u168, u169, u170, u171, u172, u173, u174, u175, u176, u177, u178, u179, u180, u181, u182, u183, u184, u185, u186, u187, u188, u189, u190, u191, u192, u193, u194, u195, u196, u197, u198, u199, u200, u201, u202, u203, u204, u205, u206, u207, u208, u209, u210, u211, u212, u213, u214, u215, u216, u217, u218, u219, u220, u221, u222, u223, u224, u225, u226, u227, u228, u229, u230, u231, u232, u233, u234, u235, u236, u237, u238, u239, u240, u241, u242, u243, u244], []⟩ W := by
  have C1 := Lib.hid (fun W (ho : Only Nil w W) => event0 n W (h.only ho).h)
  have C2 := Lib.hid (fun W => eventR n cap meet each W)
  have C3 := Lib.hid hbp
  have C4 := Lib.hid hbr
  have C5 := Lib.hid (fun b1 b2 W => Ck.same0 c' m' b1 b2 W)
  have C6 := Lib.hid (fun W (ho : Only Nil w W) => ahead0 P B cap meet each n id W (h.only ho).h hf)
  have C7 := Lib.hid (fun W => aheadR cap meet each n id W hf)
  have C8 := Lib.hid (fun W (ho : Only Nil w W) => life0 P B cap meet each id W (h.only ho).h)
  have C9 := Lib.hid (fun W => lifeR cap meet each id W)
  have C10 := Lib.hid (fun W (ho : Only Nil w W) => about0' P B cap meet each id W (h.only ho).h)
  have C11 := Lib.hid (fun W => aboutR cap meet each id W)
  have C12 := Lib.hid (fun W (ho : Only Nil w W) => best0 P B cap meet each side fr tt W (h.only ho).h hf)
  have C13 := Lib.hid (fun W => bestR cap meet each side fr tt W hf)
  have HM2 := Lib.hid (fun W2 => numbers0o W2)
  unfold rh0 at C2 C4 C7 C9 C11 C13
  unfold ev0 at C1 C2
  unfold lf0 at C8 C9
  unfold Ck.bk0 at C3 C5
  unfold bkx at C4
  replace h := Lib.hid h
  replace hbp := Lib.hid hbp
  replace hbr := Lib.hid hbr
  conv => arg 2; whnf
  conv => arg 4; dsimp only
  have cHL0 := blk_cell HL.out 0
  have cHL1 := blk_cell HL.out 1
  have cHL2 := blk_cell HL.out 2
  have cHL3 := blk_cell HL.out 3
  have cHL4 := blk_cell HL.out 4
  have cHL5 := blk_cell HL.out 5
  have cHL6 := blk_cell HL.out 6
  have cHL7 := blk_cell HL.out 7
  have lHL := blk_lt HL.out
  simp only [List.getElem?_toArray, List.getElem?_cons_zero, List.getElem?_cons_succ] at cHL0 cHL1 cHL2 cHL3 cHL4 cHL5 cHL6 cHL7
  have cHM0 := blk_cell HM.out 0
  have cHM1 := blk_cell HM.out 1
  have cHM2 := blk_cell HM.out 2
  have cHM3 := blk_cell HM.out 3
  have cHM4 := blk_cell HM.out 4
  have cHM5 := blk_cell HM.out 5
  have cHM6 := blk_cell HM.out 6
  have cHM7 := blk_cell HM.out 7
  have lHM := blk_lt HM.out
  simp only [List.getElem?_toArray, List.getElem?_cons_zero, List.getElem?_cons_succ] at cHM0 cHM1 cHM2 cHM3 cHM4 cHM5 cHM6 cHM7
  go_upto_region 21 with fail
  clear cHL0 cHL1 cHL2 cHL3 cHL4 cHL5 cHL6 cHL7 cHM0 cHM1 cHM2 cHM3 cHM4 cHM5 cHM6 cHM7 lHL lHM
  go_upto_region 21 with fail
  go_cut [23] from 31 to 244 (fun v0 W21 => v0 = .slice none 0 0 ∧ Hid (Only Nil W W21))
  case first =>
    have HSof := Lib.hid (fun Y (ho : Only Nil W Y) => (by
      have hx := ho.blk HX.out (fun h => h)
      have ha := ho.blk HA.out (fun h => h)
      exact ⟨blk_cell hx 0, blk_cell hx 1, blk_cell hx 2, blk_cell hx 3, blk_cell hx 4, blk_cell ha 0, blk_cell ha 1, blk_cell ha 2, blk_cell ha 3, blk_cell ha 4, ho⟩ : Y.cell? ⟨X, 0, none⟩ = some (.pointer (some ⟨P, 0, none⟩)) ∧ Y.cell? ⟨X, 1, none⟩ = some (.int .i64 (cap : Int)) ∧ Y.cell? ⟨X, 2, none⟩ = some (.int .i64 (meet : Int)) ∧ Y.cell? ⟨X, 3, none⟩ = some (.int .i64 (each : Int)) ∧ Y.cell? ⟨X, 4, none⟩ = some (.slice none 0 0) ∧ Y.cell? ⟨S, 0, none⟩ = some (.int .u64 (n : Int)) ∧ Y.cell? ⟨S, 1, none⟩ = some (.int .u64 (fr : Int)) ∧ Y.cell? ⟨S, 2, none⟩ = some (.int .u64 (tt : Int)) ∧ Y.cell? ⟨S, 3, none⟩ = some (.int .u64 (id : Int)) ∧ Y.cell? ⟨S, 4, none⟩ = some (.int .i64 side) ∧ Only Nil W Y))
    have lX := blk_lt HX.out
    have lA := blk_lt HA.out
    go_wp2_with fail
    go_region_held3 (fun Y => Y.cell? ⟨X, 0, none⟩ = some (.pointer (some ⟨P, 0, none⟩)) ∧ Y.cell? ⟨X, 1, none⟩ = some (.int .i64 (cap : Int)) ∧ Y.cell? ⟨X, 2, none⟩ = some (.int .i64 (meet : Int)) ∧ Y.cell? ⟨X, 3, none⟩ = some (.int .i64 (each : Int)) ∧ Y.cell? ⟨X, 4, none⟩ = some (.slice none 0 0) ∧ Y.cell? ⟨S, 0, none⟩ = some (.int .u64 (n : Int)) ∧ Y.cell? ⟨S, 1, none⟩ = some (.int .u64 (fr : Int)) ∧ Y.cell? ⟨S, 2, none⟩ = some (.int .u64 (tt : Int)) ∧ Y.cell? ⟨S, 3, none⟩ = some (.int .u64 (id : Int)) ∧ Y.cell? ⟨S, 4, none⟩ = some (.int .i64 side) ∧ Only Nil W Y) (first | (with_reducible exact HSof.out _ (Only.trans (S := Nil) (T := Nil) (Only.trans (S := Nil) (T := Nil) (Only.refl _ _).drew hog (fun _ _ h => h)) hog2 (fun _ _ h => h))) | (with_reducible exact HSof.out _ (Only.trans (S := Nil) (T := Nil) (Only.refl _ _).drew hog (fun _ _ h => h))) | (with_reducible exact HSof.out _ (Only.refl _ _).drew)) ((first | (go_at_call 28; go_split_ands; (refine (C10.out _ (Only.trans (S := Nil) (T := Nil) HO.out (by assumption) (fun _ _ h => h))).mono ?_); rintro e wg ⟨rfl, hog⟩)))
    go_wp2
    go_meet
    case rel => exact ⟨rfl, Lib.hid (Only.trans (S := Nil) (T := Nil) (Only.refl _ _).drew hog (fun _ _ h => h))⟩
  case rest =>
  obtain ⟨W21, rfl⟩ : ∃ x : World, x = wc := ⟨_, rfl⟩
  obtain ⟨rfl, hoc⟩ := hcut
  replace HX := Lib.hid (hoc.out.blk HX.out (fun h => h))
  replace HA := Lib.hid (hoc.out.blk HA.out (fun h => h))
  replace HE := Lib.hid (hoc.out.blk HE.out (fun h => h))
  replace HF := Lib.hid (hoc.out.blk HF.out (fun h => h))
  replace HJ := Lib.hid (hoc.out.blk HJ.out (fun h => h))
  replace HK := Lib.hid (hoc.out.blk HK.out (fun h => h))
  replace HL := Lib.hid (hoc.out.blk HL.out (fun h => h))
  replace HM := Lib.hid (hoc.out.blk HM.out (fun h => h))
  replace HO := Lib.hid (HO.out.trans (S := Nil) hoc.out (fun _ _ h => h))
  clear hoc
  go_upto_region 22 with fail
  go_cut [192] from 31 to 244 (fun v0 W22 => v0 = .bool false ∧ Hid (Only Nil W21 W22))
  case first =>
    have HSof := Lib.hid (fun Y (ho : Only Nil W21 Y) => (by
      have hx := ho.blk HX.out (fun h => h)
      have ha := ho.blk HA.out (fun h => h)
      exact ⟨blk_cell hx 0, blk_cell hx 1, blk_cell hx 2, blk_cell hx 3, blk_cell hx 4, blk_cell ha 0, blk_cell ha 1, blk_cell ha 2, blk_cell ha 3, blk_cell ha 4, ho⟩ : Y.cell? ⟨X, 0, none⟩ = some (.pointer (some ⟨P, 0, none⟩)) ∧ Y.cell? ⟨X, 1, none⟩ = some (.int .i64 (cap : Int)) ∧ Y.cell? ⟨X, 2, none⟩ = some (.int .i64 (meet : Int)) ∧ Y.cell? ⟨X, 3, none⟩ = some (.int .i64 (each : Int)) ∧ Y.cell? ⟨X, 4, none⟩ = some (.slice none 0 0) ∧ Y.cell? ⟨S, 0, none⟩ = some (.int .u64 (n : Int)) ∧ Y.cell? ⟨S, 1, none⟩ = some (.int .u64 (fr : Int)) ∧ Y.cell? ⟨S, 2, none⟩ = some (.int .u64 (tt : Int)) ∧ Y.cell? ⟨S, 3, none⟩ = some (.int .u64 (id : Int)) ∧ Y.cell? ⟨S, 4, none⟩ = some (.int .i64 side) ∧ Only Nil W21 Y))
    have lX := blk_lt HX.out
    have lA := blk_lt HA.out
    go_wp2_with fail
    go_region_held3 (fun Y => Y.cell? ⟨X, 0, none⟩ = some (.pointer (some ⟨P, 0, none⟩)) ∧ Y.cell? ⟨X, 1, none⟩ = some (.int .i64 (cap : Int)) ∧ Y.cell? ⟨X, 2, none⟩ = some (.int .i64 (meet : Int)) ∧ Y.cell? ⟨X, 3, none⟩ = some (.int .i64 (each : Int)) ∧ Y.cell? ⟨X, 4, none⟩ = some (.slice none 0 0) ∧ Y.cell? ⟨S, 0, none⟩ = some (.int .u64 (n : Int)) ∧ Y.cell? ⟨S, 1, none⟩ = some (.int .u64 (fr : Int)) ∧ Y.cell? ⟨S, 2, none⟩ = some (.int .u64 (tt : Int)) ∧ Y.cell? ⟨S, 3, none⟩ = some (.int .u64 (id : Int)) ∧ Y.cell? ⟨S, 4, none⟩ = some (.int .i64 side) ∧ Only Nil W21 Y) (first | (with_reducible exact HSof.out _ (Only.trans (S := Nil) (T := Nil) (Only.trans (S := Nil) (T := Nil) (Only.refl _ _).drew hog (fun _ _ h => h)) hog2 (fun _ _ h => h))) | (with_reducible exact HSof.out _ (Only.trans (S := Nil) (T := Nil) (Only.refl _ _).drew hog (fun _ _ h => h))) | (with_reducible exact HSof.out _ (Only.refl _ _).drew)) ((first | (go_at_call 29; go_split_ands; (refine (C11.out _).mono ?_); rintro e wg ⟨rfl, hog⟩) | (go_at_call 17; go_split_ands; (refine (HM2.out _).mono ?_); rintro e wg ⟨rfl, hog2⟩)))
    go_wp2
    go_meet
    case rel => exact ⟨rfl, Lib.hid (Only.trans (S := Nil) (T := Nil) (Only.trans (S := Nil) (T := Nil) (Only.refl _ _).drew hog (fun _ _ h => h)) hog2 (fun _ _ h => h))⟩
  case rest =>
  obtain ⟨W22, rfl⟩ : ∃ x : World, x = wc := ⟨_, rfl⟩
  obtain ⟨rfl, hoc⟩ := hcut
  replace HX := Lib.hid (hoc.out.blk HX.out (fun h => h))
  replace HA := Lib.hid (hoc.out.blk HA.out (fun h => h))
  replace HE := Lib.hid (hoc.out.blk HE.out (fun h => h))
  replace HF := Lib.hid (hoc.out.blk HF.out (fun h => h))
  replace HJ := Lib.hid (hoc.out.blk HJ.out (fun h => h))
  replace HK := Lib.hid (hoc.out.blk HK.out (fun h => h))
  replace HL := Lib.hid (hoc.out.blk HL.out (fun h => h))
  replace HM := Lib.hid (hoc.out.blk HM.out (fun h => h))
  replace HO := Lib.hid (HO.out.trans (S := Nil) hoc.out (fun _ _ h => h))
  clear hoc
  go_wp2
  refine wp_loop_rounds 1 ?_
  rw [rounds_succ]
  go_upto_region 28 with fail
  go_upto_region 28 with fail
  go_cut [25, 26, 27] from 31 to 244 (fun v0 v1 v2 W28 => v0 = .int .i64 0 ∧ v1 = .int .i64 0 ∧ v2 = .bool false ∧ Hid (Only Nil W22 W28))
  case first =>
    have HSof := Lib.hid (fun Y (ho : Only Nil W22 Y) => (by
      have hx := ho.blk HX.out (fun h => h)
      have ha := ho.blk HA.out (fun h => h)
      exact ⟨blk_cell hx 0, blk_cell hx 1, blk_cell hx 2, blk_cell hx 3, blk_cell hx 4, blk_cell ha 0, blk_cell ha 1, blk_cell ha 2, blk_cell ha 3, blk_cell ha 4, ho⟩ : Y.cell? ⟨X, 0, none⟩ = some (.pointer (some ⟨P, 0, none⟩)) ∧ Y.cell? ⟨X, 1, none⟩ = some (.int .i64 (cap : Int)) ∧ Y.cell? ⟨X, 2, none⟩ = some (.int .i64 (meet : Int)) ∧ Y.cell? ⟨X, 3, none⟩ = some (.int .i64 (each : Int)) ∧ Y.cell? ⟨X, 4, none⟩ = some (.slice none 0 0) ∧ Y.cell? ⟨S, 0, none⟩ = some (.int .u64 (n : Int)) ∧ Y.cell? ⟨S, 1, none⟩ = some (.int .u64 (fr : Int)) ∧ Y.cell? ⟨S, 2, none⟩ = some (.int .u64 (tt : Int)) ∧ Y.cell? ⟨S, 3, none⟩ = some (.int .u64 (id : Int)) ∧ Y.cell? ⟨S, 4, none⟩ = some (.int .i64 side) ∧ Only Nil W22 Y))
    have lX := blk_lt HX.out
    have lA := blk_lt HA.out
    go_wp2_with fail
    go_region_held3 (fun Y => Y.cell? ⟨X, 0, none⟩ = some (.pointer (some ⟨P, 0, none⟩)) ∧ Y.cell? ⟨X, 1, none⟩ = some (.int .i64 (cap : Int)) ∧ Y.cell? ⟨X, 2, none⟩ = some (.int .i64 (meet : Int)) ∧ Y.cell? ⟨X, 3, none⟩ = some (.int .i64 (each : Int)) ∧ Y.cell? ⟨X, 4, none⟩ = some (.slice none 0 0) ∧ Y.cell? ⟨S, 0, none⟩ = some (.int .u64 (n : Int)) ∧ Y.cell? ⟨S, 1, none⟩ = some (.int .u64 (fr : Int)) ∧ Y.cell? ⟨S, 2, none⟩ = some (.int .u64 (tt : Int)) ∧ Y.cell? ⟨S, 3, none⟩ = some (.int .u64 (id : Int)) ∧ Y.cell? ⟨S, 4, none⟩ = some (.int .i64 side) ∧ Only Nil W22 Y) (first | (with_reducible exact HSof.out _ (Only.trans (S := Nil) (T := Nil) (Only.trans (S := Nil) (T := Nil) (Only.refl _ _).drew hog (fun _ _ h => h)) hog2 (fun _ _ h => h))) | (with_reducible exact HSof.out _ (Only.trans (S := Nil) (T := Nil) (Only.refl _ _).drew hog (fun _ _ h => h))) | (with_reducible exact HSof.out _ (Only.refl _ _).drew)) ((first | (go_at_call 30; go_split_ands; (refine (C12.out _ (Only.trans (S := Nil) (T := Nil) HO.out (by assumption) (fun _ _ h => h))).mono ?_); rintro e wg ⟨rfl, hog⟩)))
    go_wp2
    go_meet
    case rel => exact ⟨rfl, rfl, rfl, Lib.hid (Only.trans (S := Nil) (T := Nil) (Only.refl _ _).drew hog (fun _ _ h => h))⟩
  case rest =>
  obtain ⟨W28, rfl⟩ : ∃ x : World, x = wc := ⟨_, rfl⟩
  obtain ⟨rfl, rfl, rfl, hoc⟩ := hcut
  replace HX := Lib.hid (hoc.out.blk HX.out (fun h => h))
  replace HA := Lib.hid (hoc.out.blk HA.out (fun h => h))
  replace HE := Lib.hid (hoc.out.blk HE.out (fun h => h))
  replace HF := Lib.hid (hoc.out.blk HF.out (fun h => h))
  replace HJ := Lib.hid (hoc.out.blk HJ.out (fun h => h))
  replace HK := Lib.hid (hoc.out.blk HK.out (fun h => h))
  replace HL := Lib.hid (hoc.out.blk HL.out (fun h => h))
  replace HM := Lib.hid (hoc.out.blk HM.out (fun h => h))
  replace HO := Lib.hid (HO.out.trans (S := Nil) hoc.out (fun _ _ h => h))
  clear hoc
  go_upto_region 29 with fail
  go_cut [28, 29, 30] from 31 to 244 (fun v0 v1 v2 W29 => v0 = .int .i64 0 ∧ v1 = .int .i64 0 ∧ v2 = .bool false ∧ Hid (Only Nil W28 W29))
  case first =>
    have HSof := Lib.hid (fun Y (ho : Only Nil W28 Y) => (by
      have hx := ho.blk HX.out (fun h => h)
      have ha := ho.blk HA.out (fun h => h)
      exact ⟨blk_cell hx 0, blk_cell hx 1, blk_cell hx 2, blk_cell hx 3, blk_cell hx 4, blk_cell ha 0, blk_cell ha 1, blk_cell ha 2, blk_cell ha 3, blk_cell ha 4, ho⟩ : Y.cell? ⟨X, 0, none⟩ = some (.pointer (some ⟨P, 0, none⟩)) ∧ Y.cell? ⟨X, 1, none⟩ = some (.int .i64 (cap : Int)) ∧ Y.cell? ⟨X, 2, none⟩ = some (.int .i64 (meet : Int)) ∧ Y.cell? ⟨X, 3, none⟩ = some (.int .i64 (each : Int)) ∧ Y.cell? ⟨X, 4, none⟩ = some (.slice none 0 0) ∧ Y.cell? ⟨S, 0, none⟩ = some (.int .u64 (n : Int)) ∧ Y.cell? ⟨S, 1, none⟩ = some (.int .u64 (fr : Int)) ∧ Y.cell? ⟨S, 2, none⟩ = some (.int .u64 (tt : Int)) ∧ Y.cell? ⟨S, 3, none⟩ = some (.int .u64 (id : Int)) ∧ Y.cell? ⟨S, 4, none⟩ = some (.int .i64 side) ∧ Only Nil W28 Y))
    have lX := blk_lt HX.out
    have lA := blk_lt HA.out
    go_wp2_with fail
    go_region_held3 (fun Y => Y.cell? ⟨X, 0, none⟩ = some (.pointer (some ⟨P, 0, none⟩)) ∧ Y.cell? ⟨X, 1, none⟩ = some (.int .i64 (cap : Int)) ∧ Y.cell? ⟨X, 2, none⟩ = some (.int .i64 (meet : Int)) ∧ Y.cell? ⟨X, 3, none⟩ = some (.int .i64 (each : Int)) ∧ Y.cell? ⟨X, 4, none⟩ = some (.slice none 0 0) ∧ Y.cell? ⟨S, 0, none⟩ = some (.int .u64 (n : Int)) ∧ Y.cell? ⟨S, 1, none⟩ = some (.int .u64 (fr : Int)) ∧ Y.cell? ⟨S, 2, none⟩ = some (.int .u64 (tt : Int)) ∧ Y.cell? ⟨S, 3, none⟩ = some (.int .u64 (id : Int)) ∧ Y.cell? ⟨S, 4, none⟩ = some (.int .i64 side) ∧ Only Nil W28 Y) (first | (with_reducible exact HSof.out _ (Only.trans (S := Nil) (T := Nil) (Only.trans (S := Nil) (T := Nil) (Only.refl _ _).drew hog (fun _ _ h => h)) hog2 (fun _ _ h => h))) | (with_reducible exact HSof.out _ (Only.trans (S := Nil) (T := Nil) (Only.refl _ _).drew hog (fun _ _ h => h))) | (with_reducible exact HSof.out _ (Only.refl _ _).drew)) ((first | (go_at_call 31; go_split_ands; (refine (C13.out _).mono ?_); rintro e wg ⟨rfl, hog⟩)))
    go_wp2
    go_meet
    case rel => exact ⟨rfl, rfl, rfl, Lib.hid (Only.trans (S := Nil) (T := Nil) (Only.refl _ _).drew hog (fun _ _ h => h))⟩
  case rest =>
  obtain ⟨W29, rfl⟩ : ∃ x : World, x = wc := ⟨_, rfl⟩
  obtain ⟨rfl, rfl, rfl, hoc⟩ := hcut
  replace HX := Lib.hid (hoc.out.blk HX.out (fun h => h))
  replace HA := Lib.hid (hoc.out.blk HA.out (fun h => h))
  replace HE := Lib.hid (hoc.out.blk HE.out (fun h => h))
  replace HF := Lib.hid (hoc.out.blk HF.out (fun h => h))
  replace HJ := Lib.hid (hoc.out.blk HJ.out (fun h => h))
  replace HK := Lib.hid (hoc.out.blk HK.out (fun h => h))
  replace HL := Lib.hid (hoc.out.blk HL.out (fun h => h))
  replace HM := Lib.hid (hoc.out.blk HM.out (fun h => h))
  replace HO := Lib.hid (HO.out.trans (S := Nil) hoc.out (fun _ _ h => h))
  clear hoc
  go_wp2
  go_ret
  exact ⟨rfl, HO.out⟩
set_option maxHeartbeats 40000000 in
set_option maxRecDepth 100000 in
theorem asked_11 (X P B cap meet each n fr tt id : Nat) (side c' m' code : Int) (w : World) (h : M0 w X P B cap meet each) (hf : Ck.fit cap meet = true)
    (hbp : ∀ W, Only Nil w W → Calls Tryz.prog 21 #[.pointer (some ⟨P, 0, none⟩), .int .u64 (n : Int)] W fun e w' => e = .returned (.tuple #[.agg (Ck.bk0 c' m'), .int .i64 code]) ∧ Only Nil W w')
    (hbr : ∀ W, Calls Tryz.prog 22 #[.agg (rh0 cap meet each), .int .u64 (n : Int)] W fun e w' => (∃ b1 b2, e = .returned (.tuple #[.agg (bkx c' m' b1 b2), .int .i64 code])) ∧ Only Nil W w')
    (S : Nat) (W : World) (bHE : Nat) (bHF : Nat) (bHJ : Nat) (bHK : Nat) (b1 b2 : Option Addr) (bHL : Nat) (u31 u32 u33 u34 u35 u36 u37 u38 u39 u40 u41 u42 u43 u44 u45 u46 u47 u48 u49 u50 u51 u52 u53 u54 u55 u56 u57 u58 u59 u60 u61 u62 u63 u64 u65 u66 u67 u68 u69 u70 u71 u72 u73 u74 u75 u76 u77 u78 u79 u80 u81 u82 u83 u84 u85 u86 u87 u88 u89 u90 u91 u92 u93 u94 u95 u96 u97 u98 u99 u100 u101 u102 u103 u104 u105 u106 u107 u108 u109 u110 u111 u112 u113 u114 u115 u116 u117 u118 u119 u120 u121 u122 u123 u124 u125 u126 u127 u128 u129 u130 u131 u132 u133 u134 u135 u136 u137 u138 u139 u140 u141 u142 u143 u144 u145 u146 u147 u148 u149 u150 u151 u152 u153 u154 u155 u156 u157 u158 u159 u160 u161 u162 u163 u164 u165 u166 u167 u168 u169 u170 u171 u172 u173 u174 u175 u176 u177 u178 u179 u180 u181 u182 u183 u184 u185 u186 u187 u188 u189 u190 u191 u192 u193 u194 u195 u196 u197 u198 u199 u200 u201 u202 u203 u204 u205 u206 u207 u208 u209 u210 u211 u212 u213 u214 u215 u216 u217 u218 u219 u220 u221 u222 u223 u224 u225 u226 u227 u228 u229 u230 u231 u232 u233 u234 u235 u236 u237 u238 u239 u240 u241 u242 u243 u244 : Value)
    (HX : Hid (W.heap[X]? = some (.cells #[.pointer (some ⟨P, 0, none⟩), .int .i64 (cap : Int), .int .i64 (meet : Int), .int .i64 (each : Int), .slice none 0 0] tPr (0, 0)))) (HA : Hid (W.heap[S]? = some (.cells #[.int .u64 (n : Int), .int .u64 (fr : Int), .int .u64 (tt : Int), .int .u64 (id : Int), .int .i64 side] tAsk (0, 0)))) (HE : Hid (W.heap[bHE]? = some (.cells #[.int .u64 0, .int .i64 0, .int .u64 0, .int .u64 0, .int .u64 0, .int .u32 0, .int .i64 0, .int .i64 0, .int .i64 0, .int .u64 0, .int .u64 0, .int .i64 0, .int .i64 0] tEv (0, 0)))) (HF : Hid (W.heap[bHF]? = some (.cells #[.int .u64 0, .int .i64 0, .int .u64 0, .int .u64 0, .int .u64 0, .int .u32 0, .int .i64 0, .int .i64 0, .int .i64 0, .int .u64 0, .int .u64 0, .int .i64 0, .int .i64 0] tEv (0, 0)))) (HJ : Hid (W.heap[bHJ]? = some (.cells #[.int .i64 c', .int .i64 m', .slice none 0 0, .slice none 0 0, .int .u64 0, .int .u64 0] Ck.tBk (0, 0)))) (HK : Hid (W.heap[bHK]? = some (.cells #[.int .i64 c', .int .i64 m', .slice b1 0 0, .slice b2 0 0, .int .u64 0, .int .u64 0] Ck.tBk (0, 0)))) (HL : Hid (W.heap[bHL]? = some (.cells #[.int .u64 0, .int .u64 0, .int .u64 0, .int .u64 0, .int .u64 0, .int .u64 0, .int .i64 0, .int .u64 0] tLf (0, 0)))) (HO : Hid (Only Nil w W)) :
    Code.wp Tryz.prog (behind 11 (Tryz.f9.body.getD .skip)) (bodyPost Tryz.prog Tryz.f9 fun e w' => e = .returned (.bool true) ∧ Only Nil w w') ⟨#[.pointer (some ⟨X, 0, none⟩), .agg #[.int .u64 (n : Int), .int .u64 (fr : Int), .int .u64 (tt : Int), .int .u64 (id : Int), .int .i64 side], undef, .pointer (some ⟨S, 0, none⟩), .bool false, .pointer (some ⟨bHE, 0, none⟩), .int .i64 300, .pointer (some ⟨bHF, 0, none⟩), .int .i64 300, .pointer (some ⟨bHJ, 0, none⟩), .int .i64 code, .pointer (some ⟨bHK, 0, none⟩), .int .i64 code, .int .i64 0, .int .i64 0, .int .u64 0, .bool false, .int .u64 0, .bool false, .pointer (some ⟨bHL, 0, none⟩), .bool false, undef, undef, undef, undef, undef, undef, undef, undef, undef, undef, u31, u32, u33, u34, u35, u36, u37, u38, u39, u40, u41, u42, u43, u44, u45, u46, u47, u48, u49, u50, u51, u52, u53, u54, u55, u56, u57, u58, u59, u60, u61, u62, u63, u64, u65, u66, u67, u68, u69, u70, u71, u72, u73, u74, u75, u76, u77, u78, u79, u80, u81, u82, u83, u84, u85, u86, u87, u88, u89, u90, u91, u92, u93, u94, u95, u96, u97, u98, u99, u100, u101, u102, u103, u104, u105, u106, u107, u108, u109, u110, u111, u112, u113, u114, u115, u116, u117, u118, u119, u120, u121, u122, u123, u124, u125, u126, u127, u128, u129, u130, u131, u132, u133, u134, u135, u136, u137, u138, u139, u140, u141, u142, u143, u144, u145, u146, u147, u148, u149, u150, u151, u152, u153, u154, u155, u156, u157, u158, u159, u160, u161, u162, u163, u164, u165, u166, u167, u168, u169, u170, u171, u172, u173, u174, u175, u176, u177, u178, u179, u180, u181, u182, u183, u184, u185, u186, u187, u188, u189, u190, u191, u192, u193, u194, u195, u196, u197, u198, u199, u200, u201, u202, u203, u204, u205, u206, u207, u208, u209, u210, u211, u212, u213, u214, u215, u216, u217, u218, u219, u220, u221, u222, u223, u224, u225, u226, u227, u228, u229, u230, u231, u232, u233, u234, u235, u236, u237, u238, u239, u240, u241, u242, u243, u244], []⟩ W := by
  have C1 := Lib.hid (fun W (ho : Only Nil w W) => event0 n W (h.only ho).h)
  have C2 := Lib.hid (fun W => eventR n cap meet each W)
  have C3 := Lib.hid hbp
  have C4 := Lib.hid hbr
  have C5 := Lib.hid (fun b1 b2 W => Ck.same0 c' m' b1 b2 W)
  have C6 := Lib.hid (fun W (ho : Only Nil w W) => ahead0 P B cap meet each n id W (h.only ho).h hf)
  have C7 := Lib.hid (fun W => aheadR cap meet each n id W hf)
  have C8 := Lib.hid (fun W (ho : Only Nil w W) => life0 P B cap meet each id W (h.only ho).h)
  have C9 := Lib.hid (fun W => lifeR cap meet each id W)
  have C10 := Lib.hid (fun W (ho : Only Nil w W) => about0' P B cap meet each id W (h.only ho).h)
  have C11 := Lib.hid (fun W => aboutR cap meet each id W)
  have C12 := Lib.hid (fun W (ho : Only Nil w W) => best0 P B cap meet each side fr tt W (h.only ho).h hf)
  have C13 := Lib.hid (fun W => bestR cap meet each side fr tt W hf)
  have HM2 := Lib.hid (fun W2 => numbers0o W2)
  unfold rh0 at C2 C4 C7 C9 C11 C13
  unfold ev0 at C1 C2
  unfold lf0 at C8 C9
  unfold Ck.bk0 at C3 C5
  unfold bkx at C4
  replace h := Lib.hid h
  replace hbp := Lib.hid hbp
  replace hbr := Lib.hid hbr
  conv => arg 2; whnf
  conv => arg 4; dsimp only
  go_upto_region 18 with fail
  go_cut [21, 22] from 31 to 244 (fun va vb W18 => ∃ bHM : Nat, va = .pointer (some ⟨bHM, 0, none⟩) ∧ vb = .bool false ∧ Hid (W18.heap[bHM]? = some (.cells #[.int .u64 0, .int .u64 0, .int .u64 0, .int .u64 0, .int .u64 0, .int .u64 0, .int .i64 0, .int .u64 0] tLf (0, 0))) ∧ Hid (Only Nil W W18))
  case first =>
    have HSof := Lib.hid (fun Y (ho : Only Nil W Y) => (by
      have hx := ho.blk HX.out (fun h => h)
      have ha := ho.blk HA.out (fun h => h)
      exact ⟨blk_cell hx 0, blk_cell hx 1, blk_cell hx 2, blk_cell hx 3, blk_cell hx 4, blk_cell ha 0, blk_cell ha 1, blk_cell ha 2, blk_cell ha 3, blk_cell ha 4, ho⟩ : Y.cell? ⟨X, 0, none⟩ = some (.pointer (some ⟨P, 0, none⟩)) ∧ Y.cell? ⟨X, 1, none⟩ = some (.int .i64 (cap : Int)) ∧ Y.cell? ⟨X, 2, none⟩ = some (.int .i64 (meet : Int)) ∧ Y.cell? ⟨X, 3, none⟩ = some (.int .i64 (each : Int)) ∧ Y.cell? ⟨X, 4, none⟩ = some (.slice none 0 0) ∧ Y.cell? ⟨S, 0, none⟩ = some (.int .u64 (n : Int)) ∧ Y.cell? ⟨S, 1, none⟩ = some (.int .u64 (fr : Int)) ∧ Y.cell? ⟨S, 2, none⟩ = some (.int .u64 (tt : Int)) ∧ Y.cell? ⟨S, 3, none⟩ = some (.int .u64 (id : Int)) ∧ Y.cell? ⟨S, 4, none⟩ = some (.int .i64 side) ∧ Only Nil W Y))
    have lX := blk_lt HX.out
    have lA := blk_lt HA.out
    go_wp2_with fail
    go_region_held3 (fun Y => Y.cell? ⟨X, 0, none⟩ = some (.pointer (some ⟨P, 0, none⟩)) ∧ Y.cell? ⟨X, 1, none⟩ = some (.int .i64 (cap : Int)) ∧ Y.cell? ⟨X, 2, none⟩ = some (.int .i64 (meet : Int)) ∧ Y.cell? ⟨X, 3, none⟩ = some (.int .i64 (each : Int)) ∧ Y.cell? ⟨X, 4, none⟩ = some (.slice none 0 0) ∧ Y.cell? ⟨S, 0, none⟩ = some (.int .u64 (n : Int)) ∧ Y.cell? ⟨S, 1, none⟩ = some (.int .u64 (fr : Int)) ∧ Y.cell? ⟨S, 2, none⟩ = some (.int .u64 (tt : Int)) ∧ Y.cell? ⟨S, 3, none⟩ = some (.int .u64 (id : Int)) ∧ Y.cell? ⟨S, 4, none⟩ = some (.int .i64 side) ∧ Only Nil W Y) (first | (with_reducible exact HSof.out _ (only_set8 (Only.trans (S := Nil) (T := Nil) (((Only.refl _ _).alloc _).drew) hog (fun _ _ h => h)) (Nat.le_refl _) _ _ _ _ _ _ _ _)) | (with_reducible exact HSof.out _ ((Only.trans (S := Nil) (T := Nil) (Only.refl _ _).drew hog (fun _ _ h => h)).alloc _)) | (with_reducible exact HSof.out _ (Only.trans (S := Nil) (T := Nil) (((Only.refl _ _).alloc _).drew) hog (fun _ _ h => h))) | (with_reducible exact HSof.out _ (((Only.refl _ _).drew).alloc _)) | (with_reducible exact HSof.out _ (((Only.refl _ _).alloc _).drew)) | (with_reducible exact HSof.out _ (Only.trans (S := Nil) (T := Nil) (Only.trans (S := Nil) (T := Nil) (Only.refl _ _).drew hog (fun _ _ h => h)) hog2 (fun _ _ h => h))) | (with_reducible exact HSof.out _ (Only.trans (S := Nil) (T := Nil) (Only.refl _ _).drew hog (fun _ _ h => h))) | (with_reducible exact HSof.out _ (Only.refl _ _).drew)) ((first | (go_at_call 27; go_split_ands; (refine (C9.out _).mono ?_); rintro e wg ⟨rfl, hog⟩; (first | ((with_reducible have hbx := hog.blk (blk_drew (blk_new W zLf)) (fun h => h)); have hCf := (fun k => blk_frozen hbx k); have hCl := blk_lt hbx; have hC0 := blk_cell hbx 0; have hC1 := blk_cell hbx 1; have hC2 := blk_cell hbx 2; have hC3 := blk_cell hbx 3; have hC4 := blk_cell hbx 4; have hC5 := blk_cell hbx 5; have hC6 := blk_cell hbx 6; have hC7 := blk_cell hbx 7; simp only [List.getElem?_toArray, List.getElem?_cons_zero, List.getElem?_cons_succ] at hC0 hC1 hC2 hC3 hC4 hC5 hC6 hC7) | skip))))
    · go_wp2
      go_meet
      case rel => exact ⟨_, rfl, rfl, Lib.hid (blk_new _ _), Lib.hid ((Only.trans (S := Nil) (T := Nil) (Only.refl _ _).drew hog (fun _ _ h => h)).alloc _)⟩
    · go_wp2
      go_meet
      case rel => exact ⟨_, rfl, rfl, Lib.hid (blk_set8 hbx _ _ _ _ _ _ _ _), Lib.hid (only_set8 (Only.trans (S := Nil) (T := Nil) (((Only.refl _ _).alloc _).drew) hog (fun _ _ h => h)) (Nat.le_refl _) _ _ _ _ _ _ _ _)⟩
  case rest =>
  obtain ⟨W18, rfl⟩ : ∃ x : World, x = wc := ⟨_, rfl⟩
  obtain ⟨bHM, rfl, rfl, HM, hoc⟩ := hcut
  replace HX := Lib.hid (hoc.out.blk HX.out (fun h => h))
  replace HA := Lib.hid (hoc.out.blk HA.out (fun h => h))
  replace HE := Lib.hid (hoc.out.blk HE.out (fun h => h))
  replace HF := Lib.hid (hoc.out.blk HF.out (fun h => h))
  replace HJ := Lib.hid (hoc.out.blk HJ.out (fun h => h))
  replace HK := Lib.hid (hoc.out.blk HK.out (fun h => h))
  replace HL := Lib.hid (hoc.out.blk HL.out (fun h => h))
  replace HO := Lib.hid (HO.out.trans (S := Nil) hoc.out (fun _ _ h => h))
  clear hoc
  rename_i hk
  refine hk _ _ ?_
  clear hk
  exact asked_c _ _ _ _ _ _ _ _ _ _ _ _ _ _ _ h.out hf hbp.out hbr.out _ _ _ _ _ _ _ _ _ _ _ _ _ _ _ _ _ _ _ _ _ _ _ _ _ _ _ _ _ _ _ _ _ _ _ _ _ _ _ _ _ _ _ _ _ _ _ _ _ _ _ _ _ _ _ _ _ _ _ _ _ _ _ _ _ _ _ _ _ _ _ _ _ _ _ _ _ _ _ _ _ _ _ _ _ _ _ _ _ _ _ _ _ _ _ _ _ _ _ _ _ _ _ _ _ _ _ _ _ _ _ _ _ _ _ _ _ _ _ _ _ _ _ _ _ _ _ _ _ _ _ _ _ _ _ _ _ _ _ _ _ _ _ _ _ _ _ _ _ _ _ _ _ _ _ _ _ _ _ _ _ _ _ _ _ _ _ _ _ _ _ _ _ _ _ _ _ _ _ _ _ _ _ _ _ _ _ _ _ _ _ _ _ _ _ _ _ _ _ _ _ _ _ _ _ _ _ _ _ _ _ _ _ _ _ _ _ _ _ _ _ _ _ _ HX HA HE HF HJ HK HL HM HO
set_option maxHeartbeats 40000000 in
set_option maxRecDepth 100000 in
theorem asked_10 (X P B cap meet each n fr tt id : Nat) (side c' m' code : Int) (w : World) (h : M0 w X P B cap meet each) (hf : Ck.fit cap meet = true)
    (hbp : ∀ W, Only Nil w W → Calls Tryz.prog 21 #[.pointer (some ⟨P, 0, none⟩), .int .u64 (n : Int)] W fun e w' => e = .returned (.tuple #[.agg (Ck.bk0 c' m'), .int .i64 code]) ∧ Only Nil W w')
    (hbr : ∀ W, Calls Tryz.prog 22 #[.agg (rh0 cap meet each), .int .u64 (n : Int)] W fun e w' => (∃ b1 b2, e = .returned (.tuple #[.agg (bkx c' m' b1 b2), .int .i64 code])) ∧ Only Nil W w')
    (S : Nat) (W : World) (bHE : Nat) (bHF : Nat) (bHJ : Nat) (bHK : Nat) (b1 b2 : Option Addr) (u31 u32 u33 u34 u35 u36 u37 u38 u39 u40 u41 u42 u43 u44 u45 u46 u47 u48 u49 u50 u51 u52 u53 u54 u55 u56 u57 u58 u59 u60 u61 u62 u63 u64 u65 u66 u67 u68 u69 u70 u71 u72 u73 u74 u75 u76 u77 u78 u79 u80 u81 u82 u83 u84 u85 u86 u87 u88 u89 u90 u91 u92 u93 u94 u95 u96 u97 u98 u99 u100 u101 u102 u103 u104 u105 u106 u107 u108 u109 u110 u111 u112 u113 u114 u115 u116 u117 u118 u119 u120 u121 u122 u123 u124 u125 u126 u127 u128 u129 u130 u131 u132 u133 u134 u135 u136 u137 u138 u139 u140 u141 u142 u143 u144 u145 u146 u147 u148 u149 u150 u151 u152 u153 u154 u155 u156 u157 u158 u159 u160 u161 u162 u163 u164 u165 u166 u167 u168 u169 u170 u171 u172 u173 u174 u175 u176 u177 u178 u179 u180 u181 u182 u183 u184 u185 u186 u187 u188 u189 u190 u191 u192 u193 u194 u195 u196 u197 u198 u199 u200 u201 u202 u203 u204 u205 u206 u207 u208 u209 u210 u211 u212 u213 u214 u215 u216 u217 u218 u219 u220 u221 u222 u223 u224 u225 u226 u227 u228 u229 u230 u231 u232 u233 u234 u235 u236 u237 u238 u239 u240 u241 u242 u243 u244 : Value)
    (HX : Hid (W.heap[X]? = some (.cells #[.pointer (some ⟨P, 0, none⟩), .int .i64 (cap : Int), .int .i64 (meet : Int), .int .i64 (each : Int), .slice none 0 0] tPr (0, 0)))) (HA : Hid (W.heap[S]? = some (.cells #[.int .u64 (n : Int), .int .u64 (fr : Int), .int .u64 (tt : Int), .int .u64 (id : Int), .int .i64 side] tAsk (0, 0)))) (HE : Hid (W.heap[bHE]? = some (.cells #[.int .u64 0, .int .i64 0, .int .u64 0, .int .u64 0, .int .u64 0, .int .u32 0, .int .i64 0, .int .i64 0, .int .i64 0, .int .u64 0, .int .u64 0, .int .i64 0, .int .i64 0] tEv (0, 0)))) (HF : Hid (W.heap[bHF]? = some (.cells #[.int .u64 0, .int .i64 0, .int .u64 0, .int .u64 0, .int .u64 0, .int .u32 0, .int .i64 0, .int .i64 0, .int .i64 0, .int .u64 0, .int .u64 0, .int .i64 0, .int .i64 0] tEv (0, 0)))) (HJ : Hid (W.heap[bHJ]? = some (.cells #[.int .i64 c', .int .i64 m', .slice none 0 0, .slice none 0 0, .int .u64 0, .int .u64 0] Ck.tBk (0, 0)))) (HK : Hid (W.heap[bHK]? = some (.cells #[.int .i64 c', .int .i64 m', .slice b1 0 0, .slice b2 0 0, .int .u64 0, .int .u64 0] Ck.tBk (0, 0)))) (HO : Hid (Only Nil w W)) :
    Code.wp Tryz.prog (behind 10 (Tryz.f9.body.getD .skip)) (bodyPost Tryz.prog Tryz.f9 fun e w' => e = .returned (.bool true) ∧ Only Nil w w') ⟨#[.pointer (some ⟨X, 0, none⟩), .agg #[.int .u64 (n : Int), .int .u64 (fr : Int), .int .u64 (tt : Int), .int .u64 (id : Int), .int .i64 side], undef, .pointer (some ⟨S, 0, none⟩), .bool false, .pointer (some ⟨bHE, 0, none⟩), .int .i64 300, .pointer (some ⟨bHF, 0, none⟩), .int .i64 300, .pointer (some ⟨bHJ, 0, none⟩), .int .i64 code, .pointer (some ⟨bHK, 0, none⟩), .int .i64 code, .int .i64 0, .int .i64 0, .int .u64 0, .bool false, .int .u64 0, .bool false, undef, undef, undef, undef, undef, undef, undef, undef, undef, undef, undef, undef, u31, u32, u33, u34, u35, u36, u37, u38, u39, u40, u41, u42, u43, u44, u45, u46, u47, u48, u49, u50, u51, u52, u53, u54, u55, u56, u57, u58, u59, u60, u61, u62, u63, u64, u65, u66, u67, u68, u69, u70, u71, u72, u73, u74, u75, u76, u77, u78, u79, u80, u81, u82, u83, u84, u85, u86, u87, u88, u89, u90, u91, u92, u93, u94, u95, u96, u97, u98, u99, u100, u101, u102, u103, u104, u105, u106, u107, u108, u109, u110, u111, u112, u113, u114, u115, u116, u117, u118, u119, u120, u121, u122, u123, u124, u125, u126, u127, u128, u129, u130, u131, u132, u133, u134, u135, u136, u137, u138, u139, u140, u141, u142, u143, u144, u145, u146, u147, u148, u149, u150, u151, u152, u153, u154, u155, u156, u157, u158, u159, u160, u161, u162, u163, u164, u165, u166, u167, u168, u169, u170, u171, u172, u173, u174, u175, u176, u177, u178, u179, u180, u181, u182, u183, u184, u185, u186, u187, u188, u189, u190, u191, u192, u193, u194, u195, u196, u197, u198, u199, u200, u201, u202, u203, u204, u205, u206, u207, u208, u209, u210, u211, u212, u213, u214, u215, u216, u217, u218, u219, u220, u221, u222, u223, u224, u225, u226, u227, u228, u229, u230, u231, u232, u233, u234, u235, u236, u237, u238, u239, u240, u241, u242, u243, u244], []⟩ W := by
  have C1 := Lib.hid (fun W (ho : Only Nil w W) => event0 n W (h.only ho).h)
  have C2 := Lib.hid (fun W => eventR n cap meet each W)
  have C3 := Lib.hid hbp
  have C4 := Lib.hid hbr
  have C5 := Lib.hid (fun b1 b2 W => Ck.same0 c' m' b1 b2 W)
  have C6 := Lib.hid (fun W (ho : Only Nil w W) => ahead0 P B cap meet each n id W (h.only ho).h hf)
  have C7 := Lib.hid (fun W => aheadR cap meet each n id W hf)
  have C8 := Lib.hid (fun W (ho : Only Nil w W) => life0 P B cap meet each id W (h.only ho).h)
  have C9 := Lib.hid (fun W => lifeR cap meet each id W)
  have C10 := Lib.hid (fun W (ho : Only Nil w W) => about0' P B cap meet each id W (h.only ho).h)
  have C11 := Lib.hid (fun W => aboutR cap meet each id W)
  have C12 := Lib.hid (fun W (ho : Only Nil w W) => best0 P B cap meet each side fr tt W (h.only ho).h hf)
  have C13 := Lib.hid (fun W => bestR cap meet each side fr tt W hf)
  have HM2 := Lib.hid (fun W2 => numbers0o W2)
  unfold rh0 at C2 C4 C7 C9 C11 C13
  unfold ev0 at C1 C2
  unfold lf0 at C8 C9
  unfold Ck.bk0 at C3 C5
  unfold bkx at C4
  replace h := Lib.hid h
  replace hbp := Lib.hid hbp
  replace hbr := Lib.hid hbr
  conv => arg 2; whnf
  conv => arg 4; dsimp only
  go_upto_region 17 with fail
  go_cut [19, 20] from 31 to 244 (fun va vb W17 => ∃ bHL : Nat, va = .pointer (some ⟨bHL, 0, none⟩) ∧ vb = .bool false ∧ Hid (W17.heap[bHL]? = some (.cells #[.int .u64 0, .int .u64 0, .int .u64 0, .int .u64 0, .int .u64 0, .int .u64 0, .int .i64 0, .int .u64 0] tLf (0, 0))) ∧ Hid (Only Nil W W17))
  case first =>
    have HSof := Lib.hid (fun Y (ho : Only Nil W Y) => (by
      have hx := ho.blk HX.out (fun h => h)
      have ha := ho.blk HA.out (fun h => h)
      exact ⟨blk_cell hx 0, blk_cell hx 1, blk_cell hx 2, blk_cell hx 3, blk_cell hx 4, blk_cell ha 0, blk_cell ha 1, blk_cell ha 2, blk_cell ha 3, blk_cell ha 4, ho⟩ : Y.cell? ⟨X, 0, none⟩ = some (.pointer (some ⟨P, 0, none⟩)) ∧ Y.cell? ⟨X, 1, none⟩ = some (.int .i64 (cap : Int)) ∧ Y.cell? ⟨X, 2, none⟩ = some (.int .i64 (meet : Int)) ∧ Y.cell? ⟨X, 3, none⟩ = some (.int .i64 (each : Int)) ∧ Y.cell? ⟨X, 4, none⟩ = some (.slice none 0 0) ∧ Y.cell? ⟨S, 0, none⟩ = some (.int .u64 (n : Int)) ∧ Y.cell? ⟨S, 1, none⟩ = some (.int .u64 (fr : Int)) ∧ Y.cell? ⟨S, 2, none⟩ = some (.int .u64 (tt : Int)) ∧ Y.cell? ⟨S, 3, none⟩ = some (.int .u64 (id : Int)) ∧ Y.cell? ⟨S, 4, none⟩ = some (.int .i64 side) ∧ Only Nil W Y))
    have lX := blk_lt HX.out
    have lA := blk_lt HA.out
    go_wp2_with fail
    go_region_held3 (fun Y => Y.cell? ⟨X, 0, none⟩ = some (.pointer (some ⟨P, 0, none⟩)) ∧ Y.cell? ⟨X, 1, none⟩ = some (.int .i64 (cap : Int)) ∧ Y.cell? ⟨X, 2, none⟩ = some (.int .i64 (meet : Int)) ∧ Y.cell? ⟨X, 3, none⟩ = some (.int .i64 (each : Int)) ∧ Y.cell? ⟨X, 4, none⟩ = some (.slice none 0 0) ∧ Y.cell? ⟨S, 0, none⟩ = some (.int .u64 (n : Int)) ∧ Y.cell? ⟨S, 1, none⟩ = some (.int .u64 (fr : Int)) ∧ Y.cell? ⟨S, 2, none⟩ = some (.int .u64 (tt : Int)) ∧ Y.cell? ⟨S, 3, none⟩ = some (.int .u64 (id : Int)) ∧ Y.cell? ⟨S, 4, none⟩ = some (.int .i64 side) ∧ Only Nil W Y) (first | (with_reducible exact HSof.out _ (only_set8 (Only.trans (S := Nil) (T := Nil) (((Only.refl _ _).alloc _).drew) hog (fun _ _ h => h)) (Nat.le_refl _) _ _ _ _ _ _ _ _)) | (with_reducible exact HSof.out _ ((Only.trans (S := Nil) (T := Nil) (Only.refl _ _).drew hog (fun _ _ h => h)).alloc _)) | (with_reducible exact HSof.out _ (Only.trans (S := Nil) (T := Nil) (((Only.refl _ _).alloc _).drew) hog (fun _ _ h => h))) | (with_reducible exact HSof.out _ (((Only.refl _ _).drew).alloc _)) | (with_reducible exact HSof.out _ (((Only.refl _ _).alloc _).drew)) | (with_reducible exact HSof.out _ (Only.trans (S := Nil) (T := Nil) (Only.trans (S := Nil) (T := Nil) (Only.refl _ _).drew hog (fun _ _ h => h)) hog2 (fun _ _ h => h))) | (with_reducible exact HSof.out _ (Only.trans (S := Nil) (T := Nil) (Only.refl _ _).drew hog (fun _ _ h => h))) | (with_reducible exact HSof.out _ (Only.refl _ _).drew)) ((first | (go_at_call 26; go_split_ands; (refine (C8.out _ (Only.trans (S := Nil) (T := Nil) HO.out (by assumption) (fun _ _ h => h))).mono ?_); rintro e wg ⟨rfl, hog⟩; (first | ((with_reducible have hbx := hog.blk (blk_drew (blk_new W zLf)) (fun h => h)); have hCf := (fun k => blk_frozen hbx k); have hCl := blk_lt hbx; have hC0 := blk_cell hbx 0; have hC1 := blk_cell hbx 1; have hC2 := blk_cell hbx 2; have hC3 := blk_cell hbx 3; have hC4 := blk_cell hbx 4; have hC5 := blk_cell hbx 5; have hC6 := blk_cell hbx 6; have hC7 := blk_cell hbx 7; simp only [List.getElem?_toArray, List.getElem?_cons_zero, List.getElem?_cons_succ] at hC0 hC1 hC2 hC3 hC4 hC5 hC6 hC7) | skip))))
    · go_wp2
      go_meet
      case rel => exact ⟨_, rfl, rfl, Lib.hid (blk_new _ _), Lib.hid ((Only.trans (S := Nil) (T := Nil) (Only.refl _ _).drew hog (fun _ _ h => h)).alloc _)⟩
    · go_wp2
      go_meet
      case rel => exact ⟨_, rfl, rfl, Lib.hid (blk_set8 hbx _ _ _ _ _ _ _ _), Lib.hid (only_set8 (Only.trans (S := Nil) (T := Nil) (((Only.refl _ _).alloc _).drew) hog (fun _ _ h => h)) (Nat.le_refl _) _ _ _ _ _ _ _ _)⟩
  case rest =>
  obtain ⟨W17, rfl⟩ : ∃ x : World, x = wc := ⟨_, rfl⟩
  obtain ⟨bHL, rfl, rfl, HL, hoc⟩ := hcut
  replace HX := Lib.hid (hoc.out.blk HX.out (fun h => h))
  replace HA := Lib.hid (hoc.out.blk HA.out (fun h => h))
  replace HE := Lib.hid (hoc.out.blk HE.out (fun h => h))
  replace HF := Lib.hid (hoc.out.blk HF.out (fun h => h))
  replace HJ := Lib.hid (hoc.out.blk HJ.out (fun h => h))
  replace HK := Lib.hid (hoc.out.blk HK.out (fun h => h))
  replace HO := Lib.hid (HO.out.trans (S := Nil) hoc.out (fun _ _ h => h))
  clear hoc
  rename_i hk
  refine hk _ _ ?_
  clear hk
  exact asked_11 _ _ _ _ _ _ _ _ _ _ _ _ _ _ _ h.out hf hbp.out hbr.out _ _ _ _ _ _ _ _ _ _ _ _ _ _ _ _ _ _ _ _ _ _ _ _ _ _ _ _ _ _ _ _ _ _ _ _ _ _ _ _ _ _ _ _ _ _ _ _ _ _ _ _ _ _ _ _ _ _ _ _ _ _ _ _ _ _ _ _ _ _ _ _ _ _ _ _ _ _ _ _ _ _ _ _ _ _ _ _ _ _ _ _ _ _ _ _ _ _ _ _ _ _ _ _ _ _ _ _ _ _ _ _ _ _ _ _ _ _ _ _ _ _ _ _ _ _ _ _ _ _ _ _ _ _ _ _ _ _ _ _ _ _ _ _ _ _ _ _ _ _ _ _ _ _ _ _ _ _ _ _ _ _ _ _ _ _ _ _ _ _ _ _ _ _ _ _ _ _ _ _ _ _ _ _ _ _ _ _ _ _ _ _ _ _ _ _ _ _ _ _ _ _ _ _ _ _ _ _ _ _ _ _ _ _ _ _ _ _ _ _ _ _ _ HX HA HE HF HJ HK HL HO
set_option maxHeartbeats 40000000 in
set_option maxRecDepth 100000 in
theorem asked_5 (X P B cap meet each n fr tt id : Nat) (side c' m' code : Int) (w : World) (h : M0 w X P B cap meet each) (hf : Ck.fit cap meet = true)
    (hbp : ∀ W, Only Nil w W → Calls Tryz.prog 21 #[.pointer (some ⟨P, 0, none⟩), .int .u64 (n : Int)] W fun e w' => e = .returned (.tuple #[.agg (Ck.bk0 c' m'), .int .i64 code]) ∧ Only Nil W w')
    (hbr : ∀ W, Calls Tryz.prog 22 #[.agg (rh0 cap meet each), .int .u64 (n : Int)] W fun e w' => (∃ b1 b2, e = .returned (.tuple #[.agg (bkx c' m' b1 b2), .int .i64 code])) ∧ Only Nil W w')
    (S : Nat) (W : World) (bHE : Nat) (bHF : Nat) (bHJ : Nat) (bHK : Nat) (b1 b2 : Option Addr) (u31 u32 u33 u34 u35 u36 u37 u38 u39 u40 u41 u42 u43 u44 u45 u46 u47 u48 u49 u50 u51 u52 u53 u54 u55 u56 u57 u58 u59 u60 u61 u62 u63 u64 u65 u66 u67 u68 u69 u70 u71 u72 u73 u74 u75 u76 u77 u78 u79 u80 u81 u82 u83 u84 u85 u86 u87 u88 u89 u90 u91 u92 u93 u94 u95 u96 u97 u98 u99 u100 u101 u102 u103 u104 u105 u106 u107 u108 u109 u110 u111 u112 u113 u114 u115 u116 u117 u118 u119 u120 u121 u122 u123 u124 u125 u126 u127 u128 u129 u130 u131 u132 u133 u134 u135 u136 u137 u138 u139 u140 u141 u142 u143 u144 u145 u146 u147 u148 u149 u150 u151 u152 u153 u154 u155 u156 u157 u158 u159 u160 u161 u162 u163 u164 u165 u166 u167 u168 u169 u170 u171 u172 u173 u174 u175 u176 u177 u178 u179 u180 u181 u182 u183 u184 u185 u186 u187 u188 u189 u190 u191 u192 u193 u194 u195 u196 u197 u198 u199 u200 u201 u202 u203 u204 u205 u206 u207 u208 u209 u210 u211 u212 u213 u214 u215 u216 u217 u218 u219 u220 u221 u222 u223 u224 u225 u226 u227 u228 u229 u230 u231 u232 u233 u234 u235 u236 u237 u238 u239 u240 u241 u242 u243 u244 : Value)
    (HX : Hid (W.heap[X]? = some (.cells #[.pointer (some ⟨P, 0, none⟩), .int .i64 (cap : Int), .int .i64 (meet : Int), .int .i64 (each : Int), .slice none 0 0] tPr (0, 0)))) (HA : Hid (W.heap[S]? = some (.cells #[.int .u64 (n : Int), .int .u64 (fr : Int), .int .u64 (tt : Int), .int .u64 (id : Int), .int .i64 side] tAsk (0, 0)))) (HE : Hid (W.heap[bHE]? = some (.cells #[.int .u64 0, .int .i64 0, .int .u64 0, .int .u64 0, .int .u64 0, .int .u32 0, .int .i64 0, .int .i64 0, .int .i64 0, .int .u64 0, .int .u64 0, .int .i64 0, .int .i64 0] tEv (0, 0)))) (HF : Hid (W.heap[bHF]? = some (.cells #[.int .u64 0, .int .i64 0, .int .u64 0, .int .u64 0, .int .u64 0, .int .u32 0, .int .i64 0, .int .i64 0, .int .i64 0, .int .u64 0, .int .u64 0, .int .i64 0, .int .i64 0] tEv (0, 0)))) (HJ : Hid (W.heap[bHJ]? = some (.cells #[.int .i64 c', .int .i64 m', .slice none 0 0, .slice none 0 0, .int .u64 0, .int .u64 0] Ck.tBk (0, 0)))) (HK : Hid (W.heap[bHK]? = some (.cells #[.int .i64 c', .int .i64 m', .slice b1 0 0, .slice b2 0 0, .int .u64 0, .int .u64 0] Ck.tBk (0, 0)))) (HO : Hid (Only Nil w W)) :
    Code.wp Tryz.prog (behind 5 (Tryz.f9.body.getD .skip)) (bodyPost Tryz.prog Tryz.f9 fun e w' => e = .returned (.bool true) ∧ Only Nil w w') ⟨#[.pointer (some ⟨X, 0, none⟩), .agg #[.int .u64 (n : Int), .int .u64 (fr : Int), .int .u64 (tt : Int), .int .u64 (id : Int), .int .i64 side], undef, .pointer (some ⟨S, 0, none⟩), .bool false, .pointer (some ⟨bHE, 0, none⟩), .int .i64 300, .pointer (some ⟨bHF, 0, none⟩), .int .i64 300, .pointer (some ⟨bHJ, 0, none⟩), .int .i64 code, .pointer (some ⟨bHK, 0, none⟩), .int .i64 code, undef, undef, undef, undef, undef, undef, undef, undef, undef, undef, undef, undef, undef, undef, undef, undef, undef, undef, u31, u32, u33, u34, u35, u36, u37, u38, u39, u40, u41, u42, u43, u44, u45, u46, u47, u48, u49, u50, u51, u52, u53, u54, u55, u56, u57, u58, u59, u60, u61, u62, u63, u64, u65, u66, u67, u68, u69, u70, u71, u72, u73, u74, u75, u76, u77, u78, u79, u80, u81, u82, u83, u84, u85, u86, u87, u88, u89, u90, u91, u92, u93, u94, u95, u96, u97, u98, u99, u100, u101, u102, u103, u104, u105, u106, u107, u108, u109, u110, u111, u112, u113, u114, u115, u116, u117, u118, u119, u120, u121, u122, u123, u124, u125, u126, u127, u128, u129, u130, u131, u132, u133, u134, u135, u136, u137, u138, u139, u140, u141, u142, u143, u144, u145, u146, u147, u148, u149, u150, u151, u152, u153, u154, u155, u156, u157, u158, u159, u160, u161, u162, u163, u164, u165, u166, u167, u168, u169, u170, u171, u172, u173, u174, u175, u176, u177, u178, u179, u180, u181, u182, u183, u184, u185, u186, u187, u188, u189, u190, u191, u192, u193, u194, u195, u196, u197, u198, u199, u200, u201, u202, u203, u204, u205, u206, u207, u208, u209, u210, u211, u212, u213, u214, u215, u216, u217, u218, u219, u220, u221, u222, u223, u224, u225, u226, u227, u228, u229, u230, u231, u232, u233, u234, u235, u236, u237, u238, u239, u240, u241, u242, u243, u244], []⟩ W := by
  have C1 := Lib.hid (fun W (ho : Only Nil w W) => event0 n W (h.only ho).h)
  have C2 := Lib.hid (fun W => eventR n cap meet each W)
  have C3 := Lib.hid hbp
  have C4 := Lib.hid hbr
  have C5 := Lib.hid (fun b1 b2 W => Ck.same0 c' m' b1 b2 W)
  have C6 := Lib.hid (fun W (ho : Only Nil w W) => ahead0 P B cap meet each n id W (h.only ho).h hf)
  have C7 := Lib.hid (fun W => aheadR cap meet each n id W hf)
  have C8 := Lib.hid (fun W (ho : Only Nil w W) => life0 P B cap meet each id W (h.only ho).h)
  have C9 := Lib.hid (fun W => lifeR cap meet each id W)
  have C10 := Lib.hid (fun W (ho : Only Nil w W) => about0' P B cap meet each id W (h.only ho).h)
  have C11 := Lib.hid (fun W => aboutR cap meet each id W)
  have C12 := Lib.hid (fun W (ho : Only Nil w W) => best0 P B cap meet each side fr tt W (h.only ho).h hf)
  have C13 := Lib.hid (fun W => bestR cap meet each side fr tt W hf)
  have HM2 := Lib.hid (fun W2 => numbers0o W2)
  unfold rh0 at C2 C4 C7 C9 C11 C13
  unfold ev0 at C1 C2
  unfold lf0 at C8 C9
  unfold Ck.bk0 at C3 C5
  unfold bkx at C4
  replace h := Lib.hid h
  replace hbp := Lib.hid hbp
  replace hbr := Lib.hid hbr
  conv => arg 2; whnf
  conv => arg 4; dsimp only
  have cHE0 := blk_cell HE.out 0
  have cHE1 := blk_cell HE.out 1
  have cHE2 := blk_cell HE.out 2
  have cHE3 := blk_cell HE.out 3
  have cHE4 := blk_cell HE.out 4
  have cHE5 := blk_cell HE.out 5
  have cHE6 := blk_cell HE.out 6
  have cHE7 := blk_cell HE.out 7
  have cHE8 := blk_cell HE.out 8
  have cHE9 := blk_cell HE.out 9
  have cHE10 := blk_cell HE.out 10
  have cHE11 := blk_cell HE.out 11
  have cHE12 := blk_cell HE.out 12
  have lHE := blk_lt HE.out
  simp only [List.getElem?_toArray, List.getElem?_cons_zero, List.getElem?_cons_succ] at cHE0 cHE1 cHE2 cHE3 cHE4 cHE5 cHE6 cHE7 cHE8 cHE9 cHE10 cHE11 cHE12
  have cHF0 := blk_cell HF.out 0
  have cHF1 := blk_cell HF.out 1
  have cHF2 := blk_cell HF.out 2
  have cHF3 := blk_cell HF.out 3
  have cHF4 := blk_cell HF.out 4
  have cHF5 := blk_cell HF.out 5
  have cHF6 := blk_cell HF.out 6
  have cHF7 := blk_cell HF.out 7
  have cHF8 := blk_cell HF.out 8
  have cHF9 := blk_cell HF.out 9
  have cHF10 := blk_cell HF.out 10
  have cHF11 := blk_cell HF.out 11
  have cHF12 := blk_cell HF.out 12
  have lHF := blk_lt HF.out
  simp only [List.getElem?_toArray, List.getElem?_cons_zero, List.getElem?_cons_succ] at cHF0 cHF1 cHF2 cHF3 cHF4 cHF5 cHF6 cHF7 cHF8 cHF9 cHF10 cHF11 cHF12
  have cHJ0 := blk_cell HJ.out 0
  have cHJ1 := blk_cell HJ.out 1
  have cHJ2 := blk_cell HJ.out 2
  have cHJ3 := blk_cell HJ.out 3
  have cHJ4 := blk_cell HJ.out 4
  have cHJ5 := blk_cell HJ.out 5
  have lHJ := blk_lt HJ.out
  simp only [List.getElem?_toArray, List.getElem?_cons_zero, List.getElem?_cons_succ] at cHJ0 cHJ1 cHJ2 cHJ3 cHJ4 cHJ5
  have cHK0 := blk_cell HK.out 0
  have cHK1 := blk_cell HK.out 1
  have cHK2 := blk_cell HK.out 2
  have cHK3 := blk_cell HK.out 3
  have cHK4 := blk_cell HK.out 4
  have cHK5 := blk_cell HK.out 5
  have lHK := blk_lt HK.out
  simp only [List.getElem?_toArray, List.getElem?_cons_zero, List.getElem?_cons_succ] at cHK0 cHK1 cHK2 cHK3 cHK4 cHK5
  go_wp2_with fail
  refine (C5.out _ _ _).mono ?_
  rintro e W5 ⟨rfl, hoc⟩
  clear cHE0 cHE1 cHE2 cHE3 cHE4 cHE5 cHE6 cHE7 cHE8 cHE9 cHE10 cHE11 cHE12 cHF0 cHF1 cHF2 cHF3 cHF4 cHF5 cHF6 cHF7 cHF8 cHF9 cHF10 cHF11 cHF12 cHJ0 cHJ1 cHJ2 cHJ3 cHJ4 cHJ5 cHK0 cHK1 cHK2 cHK3 cHK4 cHK5 lHE lHF lHJ lHK
  replace HX := Lib.hid (hoc.blk HX.out (fun h => h))
  replace HA := Lib.hid (hoc.blk HA.out (fun h => h))
  replace HE := Lib.hid (hoc.blk HE.out (fun h => h))
  replace HF := Lib.hid (hoc.blk HF.out (fun h => h))
  replace HJ := Lib.hid (hoc.blk HJ.out (fun h => h))
  replace HK := Lib.hid (hoc.blk HK.out (fun h => h))
  replace HO := Lib.hid (HO.out.trans (S := Nil) hoc (fun _ _ h => h))
  clear hoc
  have cHJ0 := blk_cell HJ.out 0
  have cHJ1 := blk_cell HJ.out 1
  have cHJ2 := blk_cell HJ.out 2
  have cHJ3 := blk_cell HJ.out 3
  have cHJ4 := blk_cell HJ.out 4
  have cHJ5 := blk_cell HJ.out 5
  have lHJ := blk_lt HJ.out
  simp only [List.getElem?_toArray, List.getElem?_cons_zero, List.getElem?_cons_succ] at cHJ0 cHJ1 cHJ2 cHJ3 cHJ4 cHJ5
  go_wp2
  refine wp_loop_rounds 1 ?_
  rw [rounds_succ]
  go_wp2
  refine wp_loop_rounds 1 ?_
  rw [rounds_succ]
  go_upto_region 15 with fail
  clear cHJ0 cHJ1 cHJ2 cHJ3 cHJ4 cHJ5 lHJ
  go_upto_region 15 with fail
  go_cut [15, 16] from 31 to 244 (fun v0 v1 W15 => v0 = .int .u64 0 ∧ v1 = .bool false ∧ Hid (Only Nil W5 W15))
  case first =>
    have HSof := Lib.hid (fun Y (ho : Only Nil W5 Y) => (by
      have hx := ho.blk HX.out (fun h => h)
      have ha := ho.blk HA.out (fun h => h)
      exact ⟨blk_cell hx 0, blk_cell hx 1, blk_cell hx 2, blk_cell hx 3, blk_cell hx 4, blk_cell ha 0, blk_cell ha 1, blk_cell ha 2, blk_cell ha 3, blk_cell ha 4, ho⟩ : Y.cell? ⟨X, 0, none⟩ = some (.pointer (some ⟨P, 0, none⟩)) ∧ Y.cell? ⟨X, 1, none⟩ = some (.int .i64 (cap : Int)) ∧ Y.cell? ⟨X, 2, none⟩ = some (.int .i64 (meet : Int)) ∧ Y.cell? ⟨X, 3, none⟩ = some (.int .i64 (each : Int)) ∧ Y.cell? ⟨X, 4, none⟩ = some (.slice none 0 0) ∧ Y.cell? ⟨S, 0, none⟩ = some (.int .u64 (n : Int)) ∧ Y.cell? ⟨S, 1, none⟩ = some (.int .u64 (fr : Int)) ∧ Y.cell? ⟨S, 2, none⟩ = some (.int .u64 (tt : Int)) ∧ Y.cell? ⟨S, 3, none⟩ = some (.int .u64 (id : Int)) ∧ Y.cell? ⟨S, 4, none⟩ = some (.int .i64 side) ∧ Only Nil W5 Y))
    have lX := blk_lt HX.out
    have lA := blk_lt HA.out
    go_wp2_with fail
    go_region_held3 (fun Y => Y.cell? ⟨X, 0, none⟩ = some (.pointer (some ⟨P, 0, none⟩)) ∧ Y.cell? ⟨X, 1, none⟩ = some (.int .i64 (cap : Int)) ∧ Y.cell? ⟨X, 2, none⟩ = some (.int .i64 (meet : Int)) ∧ Y.cell? ⟨X, 3, none⟩ = some (.int .i64 (each : Int)) ∧ Y.cell? ⟨X, 4, none⟩ = some (.slice none 0 0) ∧ Y.cell? ⟨S, 0, none⟩ = some (.int .u64 (n : Int)) ∧ Y.cell? ⟨S, 1, none⟩ = some (.int .u64 (fr : Int)) ∧ Y.cell? ⟨S, 2, none⟩ = some (.int .u64 (tt : Int)) ∧ Y.cell? ⟨S, 3, none⟩ = some (.int .u64 (id : Int)) ∧ Y.cell? ⟨S, 4, none⟩ = some (.int .i64 side) ∧ Only Nil W5 Y) (first | (with_reducible exact HSof.out _ (Only.trans (S := Nil) (T := Nil) (Only.trans (S := Nil) (T := Nil) (Only.refl _ _).drew hog (fun _ _ h => h)) hog2 (fun _ _ h => h))) | (with_reducible exact HSof.out _ (Only.trans (S := Nil) (T := Nil) (Only.refl _ _).drew hog (fun _ _ h => h))) | (with_reducible exact HSof.out _ (Only.refl _ _).drew)) ((first | (go_at_call 24; go_split_ands; (refine (C6.out _ (Only.trans (S := Nil) (T := Nil) HO.out (by assumption) (fun _ _ h => h))).mono ?_); rintro e wg ⟨rfl, hog⟩)))
    go_wp2
    go_meet
    case rel => exact ⟨rfl, rfl, Lib.hid (Only.trans (S := Nil) (T := Nil) (Only.refl _ _).drew hog (fun _ _ h => h))⟩
  case rest =>
  obtain ⟨W15, rfl⟩ : ∃ x : World, x = wc := ⟨_, rfl⟩
  obtain ⟨rfl, rfl, hoc⟩ := hcut
  replace HX := Lib.hid (hoc.out.blk HX.out (fun h => h))
  replace HA := Lib.hid (hoc.out.blk HA.out (fun h => h))
  replace HE := Lib.hid (hoc.out.blk HE.out (fun h => h))
  replace HF := Lib.hid (hoc.out.blk HF.out (fun h => h))
  replace HJ := Lib.hid (hoc.out.blk HJ.out (fun h => h))
  replace HK := Lib.hid (hoc.out.blk HK.out (fun h => h))
  replace HO := Lib.hid (HO.out.trans (S := Nil) hoc.out (fun _ _ h => h))
  clear hoc
  go_upto_region 16 with fail
  go_cut [17, 18] from 31 to 244 (fun v0 v1 W16 => v0 = .int .u64 0 ∧ v1 = .bool false ∧ Hid (Only Nil W15 W16))
  case first =>
    have HSof := Lib.hid (fun Y (ho : Only Nil W15 Y) => (by
      have hx := ho.blk HX.out (fun h => h)
      have ha := ho.blk HA.out (fun h => h)
      exact ⟨blk_cell hx 0, blk_cell hx 1, blk_cell hx 2, blk_cell hx 3, blk_cell hx 4, blk_cell ha 0, blk_cell ha 1, blk_cell ha 2, blk_cell ha 3, blk_cell ha 4, ho⟩ : Y.cell? ⟨X, 0, none⟩ = some (.pointer (some ⟨P, 0, none⟩)) ∧ Y.cell? ⟨X, 1, none⟩ = some (.int .i64 (cap : Int)) ∧ Y.cell? ⟨X, 2, none⟩ = some (.int .i64 (meet : Int)) ∧ Y.cell? ⟨X, 3, none⟩ = some (.int .i64 (each : Int)) ∧ Y.cell? ⟨X, 4, none⟩ = some (.slice none 0 0) ∧ Y.cell? ⟨S, 0, none⟩ = some (.int .u64 (n : Int)) ∧ Y.cell? ⟨S, 1, none⟩ = some (.int .u64 (fr : Int)) ∧ Y.cell? ⟨S, 2, none⟩ = some (.int .u64 (tt : Int)) ∧ Y.cell? ⟨S, 3, none⟩ = some (.int .u64 (id : Int)) ∧ Y.cell? ⟨S, 4, none⟩ = some (.int .i64 side) ∧ Only Nil W15 Y))
    have lX := blk_lt HX.out
    have lA := blk_lt HA.out
    go_wp2_with fail
    go_region_held3 (fun Y => Y.cell? ⟨X, 0, none⟩ = some (.pointer (some ⟨P, 0, none⟩)) ∧ Y.cell? ⟨X, 1, none⟩ = some (.int .i64 (cap : Int)) ∧ Y.cell? ⟨X, 2, none⟩ = some (.int .i64 (meet : Int)) ∧ Y.cell? ⟨X, 3, none⟩ = some (.int .i64 (each : Int)) ∧ Y.cell? ⟨X, 4, none⟩ = some (.slice none 0 0) ∧ Y.cell? ⟨S, 0, none⟩ = some (.int .u64 (n : Int)) ∧ Y.cell? ⟨S, 1, none⟩ = some (.int .u64 (fr : Int)) ∧ Y.cell? ⟨S, 2, none⟩ = some (.int .u64 (tt : Int)) ∧ Y.cell? ⟨S, 3, none⟩ = some (.int .u64 (id : Int)) ∧ Y.cell? ⟨S, 4, none⟩ = some (.int .i64 side) ∧ Only Nil W15 Y) (first | (with_reducible exact HSof.out _ (Only.trans (S := Nil) (T := Nil) (Only.trans (S := Nil) (T := Nil) (Only.refl _ _).drew hog (fun _ _ h => h)) hog2 (fun _ _ h => h))) | (with_reducible exact HSof.out _ (Only.trans (S := Nil) (T := Nil) (Only.refl _ _).drew hog (fun _ _ h => h))) | (with_reducible exact HSof.out _ (Only.refl _ _).drew)) ((first | (go_at_call 25; go_split_ands; (refine (C7.out _).mono ?_); rintro e wg ⟨rfl, hog⟩)))
    go_wp2
    go_meet
    case rel => exact ⟨rfl, rfl, Lib.hid (Only.trans (S := Nil) (T := Nil) (Only.refl _ _).drew hog (fun _ _ h => h))⟩
  case rest =>
  obtain ⟨W16, rfl⟩ : ∃ x : World, x = wc := ⟨_, rfl⟩
  obtain ⟨rfl, rfl, hoc⟩ := hcut
  replace HX := Lib.hid (hoc.out.blk HX.out (fun h => h))
  replace HA := Lib.hid (hoc.out.blk HA.out (fun h => h))
  replace HE := Lib.hid (hoc.out.blk HE.out (fun h => h))
  replace HF := Lib.hid (hoc.out.blk HF.out (fun h => h))
  replace HJ := Lib.hid (hoc.out.blk HJ.out (fun h => h))
  replace HK := Lib.hid (hoc.out.blk HK.out (fun h => h))
  replace HO := Lib.hid (HO.out.trans (S := Nil) hoc.out (fun _ _ h => h))
  clear hoc
  rename_i hk
  refine hk _ _ ?_
  clear hk
  exact asked_10 _ _ _ _ _ _ _ _ _ _ _ _ _ _ _ h.out hf hbp.out hbr.out _ _ _ _ _ _ _ _ _ _ _ _ _ _ _ _ _ _ _ _ _ _ _ _ _ _ _ _ _ _ _ _ _ _ _ _ _ _ _ _ _ _ _ _ _ _ _ _ _ _ _ _ _ _ _ _ _ _ _ _ _ _ _ _ _ _ _ _ _ _ _ _ _ _ _ _ _ _ _ _ _ _ _ _ _ _ _ _ _ _ _ _ _ _ _ _ _ _ _ _ _ _ _ _ _ _ _ _ _ _ _ _ _ _ _ _ _ _ _ _ _ _ _ _ _ _ _ _ _ _ _ _ _ _ _ _ _ _ _ _ _ _ _ _ _ _ _ _ _ _ _ _ _ _ _ _ _ _ _ _ _ _ _ _ _ _ _ _ _ _ _ _ _ _ _ _ _ _ _ _ _ _ _ _ _ _ _ _ _ _ _ _ _ _ _ _ _ _ _ _ _ _ _ _ _ _ _ _ _ _ _ _ _ _ _ _ _ _ _ _ _ _ HX HA HE HF HJ HK HO
set_option maxHeartbeats 40000000 in
set_option maxRecDepth 100000 in
theorem asked_4 (X P B cap meet each n fr tt id : Nat) (side c' m' code : Int) (w : World) (h : M0 w X P B cap meet each) (hf : Ck.fit cap meet = true)
    (hbp : ∀ W, Only Nil w W → Calls Tryz.prog 21 #[.pointer (some ⟨P, 0, none⟩), .int .u64 (n : Int)] W fun e w' => e = .returned (.tuple #[.agg (Ck.bk0 c' m'), .int .i64 code]) ∧ Only Nil W w')
    (hbr : ∀ W, Calls Tryz.prog 22 #[.agg (rh0 cap meet each), .int .u64 (n : Int)] W fun e w' => (∃ b1 b2, e = .returned (.tuple #[.agg (bkx c' m' b1 b2), .int .i64 code])) ∧ Only Nil W w')
    (S : Nat) (W : World) (bHE : Nat) (bHF : Nat) (bHJ : Nat) (u31 u32 u33 u34 u35 u36 u37 u38 u39 u40 u41 u42 u43 u44 u45 u46 u47 u48 u49 u50 u51 u52 u53 u54 u55 u56 u57 u58 u59 u60 u61 u62 u63 u64 u65 u66 u67 u68 u69 u70 u71 u72 u73 u74 u75 u76 u77 u78 u79 u80 u81 u82 u83 u84 u85 u86 u87 u88 u89 u90 u91 u92 u93 u94 u95 u96 u97 u98 u99 u100 u101 u102 u103 u104 u105 u106 u107 u108 u109 u110 u111 u112 u113 u114 u115 u116 u117 u118 u119 u120 u121 u122 u123 u124 u125 u126 u127 u128 u129 u130 u131 u132 u133 u134 u135 u136 u137 u138 u139 u140 u141 u142 u143 u144 u145 u146 u147 u148 u149 u150 u151 u152 u153 u154 u155 u156 u157 u158 u159 u160 u161 u162 u163 u164 u165 u166 u167 u168 u169 u170 u171 u172 u173 u174 u175 u176 u177 u178 u179 u180 u181 u182 u183 u184 u185 u186 u187 u188 u189 u190 u191 u192 u193 u194 u195 u196 u197 u198 u199 u200 u201 u202 u203 u204 u205 u206 u207 u208 u209 u210 u211 u212 u213 u214 u215 u216 u217 u218 u219 u220 u221 u222 u223 u224 u225 u226 u227 u228 u229 u230 u231 u232 u233 u234 u235 u236 u237 u238 u239 u240 u241 u242 u243 u244 : Value)
    (HX : Hid (W.heap[X]? = some (.cells #[.pointer (some ⟨P, 0, none⟩), .int .i64 (cap : Int), .int .i64 (meet : Int), .int .i64 (each : Int), .slice none 0 0] tPr (0, 0)))) (HA : Hid (W.heap[S]? = some (.cells #[.int .u64 (n : Int), .int .u64 (fr : Int), .int .u64 (tt : Int), .int .u64 (id : Int), .int .i64 side] tAsk (0, 0)))) (HE : Hid (W.heap[bHE]? = some (.cells #[.int .u64 0, .int .i64 0, .int .u64 0, .int .u64 0, .int .u64 0, .int .u32 0, .int .i64 0, .int .i64 0, .int .i64 0, .int .u64 0, .int .u64 0, .int .i64 0, .int .i64 0] tEv (0, 0)))) (HF : Hid (W.heap[bHF]? = some (.cells #[.int .u64 0, .int .i64 0, .int .u64 0, .int .u64 0, .int .u64 0, .int .u32 0, .int .i64 0, .int .i64 0, .int .i64 0, .int .u64 0, .int .u64 0, .int .i64 0, .int .i64 0] tEv (0, 0)))) (HJ : Hid (W.heap[bHJ]? = some (.cells #[.int .i64 c', .int .i64 m', .slice none 0 0, .slice none 0 0, .int .u64 0, .int .u64 0] Ck.tBk (0, 0)))) (HO : Hid (Only Nil w W)) :
    Code.wp Tryz.prog (behind 4 (Tryz.f9.body.getD .skip)) (bodyPost Tryz.prog Tryz.f9 fun e w' => e = .returned (.bool true) ∧ Only Nil w w') ⟨#[.pointer (some ⟨X, 0, none⟩), .agg #[.int .u64 (n : Int), .int .u64 (fr : Int), .int .u64 (tt : Int), .int .u64 (id : Int), .int .i64 side], undef, .pointer (some ⟨S, 0, none⟩), .bool false, .pointer (some ⟨bHE, 0, none⟩), .int .i64 300, .pointer (some ⟨bHF, 0, none⟩), .int .i64 300, .pointer (some ⟨bHJ, 0, none⟩), .int .i64 code, undef, undef, undef, undef, undef, undef, undef, undef, undef, undef, undef, undef, undef, undef, undef, undef, undef, undef, undef, undef, u31, u32, u33, u34, u35, u36, u37, u38, u39, u40, u41, u42, u43, u44, u45, u46, u47, u48, u49, u50, u51, u52, u53, u54, u55, u56, u57, u58, u59, u60, u61, u62, u63, u64, u65, u66, u67, u68, u69, u70, u71, u72, u73, u74, u75, u76, u77, u78, u79, u80, u81, u82, u83, u84, u85, u86, u87, u88, u89, u90, u91, u92, u93, u94, u95, u96, u97, u98, u99, u100, u101, u102, u103, u104, u105, u106, u107, u108, u109, u110, u111, u112, u113, u114, u115, u116, u117, u118, u119, u120, u121, u122, u123, u124, u125, u126, u127, u128, u129, u130, u131, u132, u133, u134, u135, u136, u137, u138, u139, u140, u141, u142, u143, u144, u145, u146, u147, u148, u149, u150, u151, u152, u153, u154, u155, u156, u157, u158, u159, u160, u161, u162, u163, u164, u165, u166, u167, u168, u169, u170, u171, u172, u173, u174, u175, u176, u177, u178, u179, u180, u181, u182, u183, u184, u185, u186, u187, u188, u189, u190, u191, u192, u193, u194, u195, u196, u197, u198, u199, u200, u201, u202, u203, u204, u205, u206, u207, u208, u209, u210, u211, u212, u213, u214, u215, u216, u217, u218, u219, u220, u221, u222, u223, u224, u225, u226, u227, u228, u229, u230, u231, u232, u233, u234, u235, u236, u237, u238, u239, u240, u241, u242, u243, u244], []⟩ W := by
  have C1 := Lib.hid (fun W (ho : Only Nil w W) => event0 n W (h.only ho).h)
  have C2 := Lib.hid (fun W => eventR n cap meet each W)
  have C3 := Lib.hid hbp
  have C4 := Lib.hid hbr
  have C5 := Lib.hid (fun b1 b2 W => Ck.same0 c' m' b1 b2 W)
  have C6 := Lib.hid (fun W (ho : Only Nil w W) => ahead0 P B cap meet each n id W (h.only ho).h hf)
  have C7 := Lib.hid (fun W => aheadR cap meet each n id W hf)
  have C8 := Lib.hid (fun W (ho : Only Nil w W) => life0 P B cap meet each id W (h.only ho).h)
  have C9 := Lib.hid (fun W => lifeR cap meet each id W)
  have C10 := Lib.hid (fun W (ho : Only Nil w W) => about0' P B cap meet each id W (h.only ho).h)
  have C11 := Lib.hid (fun W => aboutR cap meet each id W)
  have C12 := Lib.hid (fun W (ho : Only Nil w W) => best0 P B cap meet each side fr tt W (h.only ho).h hf)
  have C13 := Lib.hid (fun W => bestR cap meet each side fr tt W hf)
  have HM2 := Lib.hid (fun W2 => numbers0o W2)
  unfold rh0 at C2 C4 C7 C9 C11 C13
  unfold ev0 at C1 C2
  unfold lf0 at C8 C9
  unfold Ck.bk0 at C3 C5
  unfold bkx at C4
  replace h := Lib.hid h
  replace hbp := Lib.hid hbp
  replace hbr := Lib.hid hbr
  conv => arg 2; whnf
  conv => arg 4; dsimp only
  go_upto_region 4 with fail
  go_cut [11, 12] from 31 to 244 (fun va vb W4 => ∃ (bHK : Nat) (b1 b2 : Option Addr), va = .pointer (some ⟨bHK, 0, none⟩) ∧ vb = .int .i64 code ∧ Hid (W4.heap[bHK]? = some (.cells #[.int .i64 c', .int .i64 m', .slice b1 0 0, .slice b2 0 0, .int .u64 0, .int .u64 0] Ck.tBk (0, 0))) ∧ Hid (Only Nil W W4))
  case first =>
    have HSof := Lib.hid (fun Y (ho : Only Nil W Y) => (by
      have hx := ho.blk HX.out (fun h => h)
      have ha := ho.blk HA.out (fun h => h)
      exact ⟨blk_cell hx 0, blk_cell hx 1, blk_cell hx 2, blk_cell hx 3, blk_cell hx 4, blk_cell ha 0, blk_cell ha 1, blk_cell ha 2, blk_cell ha 3, blk_cell ha 4, ho⟩ : Y.cell? ⟨X, 0, none⟩ = some (.pointer (some ⟨P, 0, none⟩)) ∧ Y.cell? ⟨X, 1, none⟩ = some (.int .i64 (cap : Int)) ∧ Y.cell? ⟨X, 2, none⟩ = some (.int .i64 (meet : Int)) ∧ Y.cell? ⟨X, 3, none⟩ = some (.int .i64 (each : Int)) ∧ Y.cell? ⟨X, 4, none⟩ = some (.slice none 0 0) ∧ Y.cell? ⟨S, 0, none⟩ = some (.int .u64 (n : Int)) ∧ Y.cell? ⟨S, 1, none⟩ = some (.int .u64 (fr : Int)) ∧ Y.cell? ⟨S, 2, none⟩ = some (.int .u64 (tt : Int)) ∧ Y.cell? ⟨S, 3, none⟩ = some (.int .u64 (id : Int)) ∧ Y.cell? ⟨S, 4, none⟩ = some (.int .i64 side) ∧ Only Nil W Y))
    have lX := blk_lt HX.out
    have lA := blk_lt HA.out
    go_wp2_with fail
    go_region_held3 (fun Y => Y.cell? ⟨X, 0, none⟩ = some (.pointer (some ⟨P, 0, none⟩)) ∧ Y.cell? ⟨X, 1, none⟩ = some (.int .i64 (cap : Int)) ∧ Y.cell? ⟨X, 2, none⟩ = some (.int .i64 (meet : Int)) ∧ Y.cell? ⟨X, 3, none⟩ = some (.int .i64 (each : Int)) ∧ Y.cell? ⟨X, 4, none⟩ = some (.slice none 0 0) ∧ Y.cell? ⟨S, 0, none⟩ = some (.int .u64 (n : Int)) ∧ Y.cell? ⟨S, 1, none⟩ = some (.int .u64 (fr : Int)) ∧ Y.cell? ⟨S, 2, none⟩ = some (.int .u64 (tt : Int)) ∧ Y.cell? ⟨S, 3, none⟩ = some (.int .u64 (id : Int)) ∧ Y.cell? ⟨S, 4, none⟩ = some (.int .i64 side) ∧ Only Nil W Y) (first | (with_reducible exact HSof.out _ (only_set6 (Only.trans (S := Nil) (T := Nil) (((Only.refl _ _).alloc _).drew) hog (fun _ _ h => h)) (Nat.le_refl _) _ _ _ _ _ _)) | (with_reducible exact HSof.out _ ((Only.trans (S := Nil) (T := Nil) (Only.refl _ _).drew hog (fun _ _ h => h)).alloc _)) | (with_reducible exact HSof.out _ (Only.trans (S := Nil) (T := Nil) (((Only.refl _ _).alloc _).drew) hog (fun _ _ h => h))) | (with_reducible exact HSof.out _ (((Only.refl _ _).drew).alloc _)) | (with_reducible exact HSof.out _ (((Only.refl _ _).alloc _).drew)) | (with_reducible exact HSof.out _ (Only.trans (S := Nil) (T := Nil) (Only.trans (S := Nil) (T := Nil) (Only.refl _ _).drew hog (fun _ _ h => h)) hog2 (fun _ _ h => h))) | (with_reducible exact HSof.out _ (Only.trans (S := Nil) (T := Nil) (Only.refl _ _).drew hog (fun _ _ h => h))) | (with_reducible exact HSof.out _ (Only.refl _ _).drew)) ((first | (go_at_call 22; go_split_ands; (refine (C4.out _).mono ?_); rintro e wg ⟨⟨b1, b2, rfl⟩, hog⟩; (first | ((with_reducible have hbx := hog.blk (blk_drew (blk_new W zBk)) (fun h => h)); have hCf := (fun k => blk_frozen hbx k); have hCl := blk_lt hbx; have hC0 := blk_cell hbx 0; have hC1 := blk_cell hbx 1; have hC2 := blk_cell hbx 2; have hC3 := blk_cell hbx 3; have hC4 := blk_cell hbx 4; have hC5 := blk_cell hbx 5; simp only [List.getElem?_toArray, List.getElem?_cons_zero, List.getElem?_cons_succ] at hC0 hC1 hC2 hC3 hC4 hC5) | skip))))
    · go_wp2
      go_meet
      case rel => exact ⟨_, b1, b2, rfl, rfl, Lib.hid (blk_new _ _), Lib.hid ((Only.trans (S := Nil) (T := Nil) (Only.refl _ _).drew hog (fun _ _ h => h)).alloc _)⟩
    · go_wp2
      go_meet
      case rel => exact ⟨_, b1, b2, rfl, rfl, Lib.hid (blk_set6 hbx _ _ _ _ _ _), Lib.hid (only_set6 (Only.trans (S := Nil) (T := Nil) (((Only.refl _ _).alloc _).drew) hog (fun _ _ h => h)) (Nat.le_refl _) _ _ _ _ _ _)⟩
  case rest =>
  obtain ⟨W4, rfl⟩ : ∃ x : World, x = wc := ⟨_, rfl⟩
  obtain ⟨bHK, b1, b2, rfl, rfl, HK, hoc⟩ := hcut
  replace HX := Lib.hid (hoc.out.blk HX.out (fun h => h))
  replace HA := Lib.hid (hoc.out.blk HA.out (fun h => h))
  replace HE := Lib.hid (hoc.out.blk HE.out (fun h => h))
  replace HF := Lib.hid (hoc.out.blk HF.out (fun h => h))
  replace HJ := Lib.hid (hoc.out.blk HJ.out (fun h => h))
  replace HO := Lib.hid (HO.out.trans (S := Nil) hoc.out (fun _ _ h => h))
  clear hoc
  rename_i hk
  refine hk _ _ ?_
  clear hk
  exact asked_5 _ _ _ _ _ _ _ _ _ _ _ _ _ _ _ h.out hf hbp.out hbr.out _ _ _ _ _ _ _ _ _ _ _ _ _ _ _ _ _ _ _ _ _ _ _ _ _ _ _ _ _ _ _ _ _ _ _ _ _ _ _ _ _ _ _ _ _ _ _ _ _ _ _ _ _ _ _ _ _ _ _ _ _ _ _ _ _ _ _ _ _ _ _ _ _ _ _ _ _ _ _ _ _ _ _ _ _ _ _ _ _ _ _ _ _ _ _ _ _ _ _ _ _ _ _ _ _ _ _ _ _ _ _ _ _ _ _ _ _ _ _ _ _ _ _ _ _ _ _ _ _ _ _ _ _ _ _ _ _ _ _ _ _ _ _ _ _ _ _ _ _ _ _ _ _ _ _ _ _ _ _ _ _ _ _ _ _ _ _ _ _ _ _ _ _ _ _ _ _ _ _ _ _ _ _ _ _ _ _ _ _ _ _ _ _ _ _ _ _ _ _ _ _ _ _ _ _ _ _ _ _ _ _ _ _ _ _ _ _ _ _ _ _ _ HX HA HE HF HJ HK HO
set_option maxHeartbeats 40000000 in
set_option maxRecDepth 100000 in
theorem asked_3 (X P B cap meet each n fr tt id : Nat) (side c' m' code : Int) (w : World) (h : M0 w X P B cap meet each) (hf : Ck.fit cap meet = true)
    (hbp : ∀ W, Only Nil w W → Calls Tryz.prog 21 #[.pointer (some ⟨P, 0, none⟩), .int .u64 (n : Int)] W fun e w' => e = .returned (.tuple #[.agg (Ck.bk0 c' m'), .int .i64 code]) ∧ Only Nil W w')
    (hbr : ∀ W, Calls Tryz.prog 22 #[.agg (rh0 cap meet each), .int .u64 (n : Int)] W fun e w' => (∃ b1 b2, e = .returned (.tuple #[.agg (bkx c' m' b1 b2), .int .i64 code])) ∧ Only Nil W w')
    (S : Nat) (W : World) (bHE : Nat) (bHF : Nat) (u31 u32 u33 u34 u35 u36 u37 u38 u39 u40 u41 u42 u43 u44 u45 u46 u47 u48 u49 u50 u51 u52 u53 u54 u55 u56 u57 u58 u59 u60 u61 u62 u63 u64 u65 u66 u67 u68 u69 u70 u71 u72 u73 u74 u75 u76 u77 u78 u79 u80 u81 u82 u83 u84 u85 u86 u87 u88 u89 u90 u91 u92 u93 u94 u95 u96 u97 u98 u99 u100 u101 u102 u103 u104 u105 u106 u107 u108 u109 u110 u111 u112 u113 u114 u115 u116 u117 u118 u119 u120 u121 u122 u123 u124 u125 u126 u127 u128 u129 u130 u131 u132 u133 u134 u135 u136 u137 u138 u139 u140 u141 u142 u143 u144 u145 u146 u147 u148 u149 u150 u151 u152 u153 u154 u155 u156 u157 u158 u159 u160 u161 u162 u163 u164 u165 u166 u167 u168 u169 u170 u171 u172 u173 u174 u175 u176 u177 u178 u179 u180 u181 u182 u183 u184 u185 u186 u187 u188 u189 u190 u191 u192 u193 u194 u195 u196 u197 u198 u199 u200 u201 u202 u203 u204 u205 u206 u207 u208 u209 u210 u211 u212 u213 u214 u215 u216 u217 u218 u219 u220 u221 u222 u223 u224 u225 u226 u227 u228 u229 u230 u231 u232 u233 u234 u235 u236 u237 u238 u239 u240 u241 u242 u243 u244 : Value)
    (HX : Hid (W.heap[X]? = some (.cells #[.pointer (some ⟨P, 0, none⟩), .int .i64 (cap : Int), .int .i64 (meet : Int), .int .i64 (each : Int), .slice none 0 0] tPr (0, 0)))) (HA : Hid (W.heap[S]? = some (.cells #[.int .u64 (n : Int), .int .u64 (fr : Int), .int .u64 (tt : Int), .int .u64 (id : Int), .int .i64 side] tAsk (0, 0)))) (HE : Hid (W.heap[bHE]? = some (.cells #[.int .u64 0, .int .i64 0, .int .u64 0, .int .u64 0, .int .u64 0, .int .u32 0, .int .i64 0, .int .i64 0, .int .i64 0, .int .u64 0, .int .u64 0, .int .i64 0, .int .i64 0] tEv (0, 0)))) (HF : Hid (W.heap[bHF]? = some (.cells #[.int .u64 0, .int .i64 0, .int .u64 0, .int .u64 0, .int .u64 0, .int .u32 0, .int .i64 0, .int .i64 0, .int .i64 0, .int .u64 0, .int .u64 0, .int .i64 0, .int .i64 0] tEv (0, 0)))) (HO : Hid (Only Nil w W)) :
    Code.wp Tryz.prog (behind 3 (Tryz.f9.body.getD .skip)) (bodyPost Tryz.prog Tryz.f9 fun e w' => e = .returned (.bool true) ∧ Only Nil w w') ⟨#[.pointer (some ⟨X, 0, none⟩), .agg #[.int .u64 (n : Int), .int .u64 (fr : Int), .int .u64 (tt : Int), .int .u64 (id : Int), .int .i64 side], undef, .pointer (some ⟨S, 0, none⟩), .bool false, .pointer (some ⟨bHE, 0, none⟩), .int .i64 300, .pointer (some ⟨bHF, 0, none⟩), .int .i64 300, undef, undef, undef, undef, undef, undef, undef, undef, undef, undef, undef, undef, undef, undef, undef, undef, undef, undef, undef, undef, undef, undef, u31, u32, u33, u34, u35, u36, u37, u38, u39, u40, u41, u42, u43, u44, u45, u46, u47, u48, u49, u50, u51, u52, u53, u54, u55, u56, u57, u58, u59, u60, u61, u62, u63, u64, u65, u66, u67, u68, u69, u70, u71, u72, u73, u74, u75, u76, u77, u78, u79, u80, u81, u82, u83, u84, u85, u86, u87, u88, u89, u90, u91, u92, u93, u94, u95, u96, u97, u98, u99, u100, u101, u102, u103, u104, u105, u106, u107, u108, u109, u110, u111, u112, u113, u114, u115, u116, u117, u118, u119, u120, u121, u122, u123, u124, u125, u126, u127, u128, u129, u130, u131, u132, u133, u134, u135, u136, u137, u138, u139, u140, u141, u142, u143, u144, u145, u146, u147, u148, u149, u150, u151, u152, u153, u154, u155, u156, u157, u158, u159, u160, u161, u162, u163, u164, u165, u166, u167, u168, u169, u170, u171, u172, u173, u174, u175, u176, u177, u178, u179, u180, u181, u182, u183, u184, u185, u186, u187, u188, u189, u190, u191, u192, u193, u194, u195, u196, u197, u198, u199, u200, u201, u202, u203, u204, u205, u206, u207, u208, u209, u210, u211, u212, u213, u214, u215, u216, u217, u218, u219, u220, u221, u222, u223, u224, u225, u226, u227, u228, u229, u230, u231, u232, u233, u234, u235, u236, u237, u238, u239, u240, u241, u242, u243, u244], []⟩ W := by
  have C1 := Lib.hid (fun W (ho : Only Nil w W) => event0 n W (h.only ho).h)
  have C2 := Lib.hid (fun W => eventR n cap meet each W)
  have C3 := Lib.hid hbp
  have C4 := Lib.hid hbr
  have C5 := Lib.hid (fun b1 b2 W => Ck.same0 c' m' b1 b2 W)
  have C6 := Lib.hid (fun W (ho : Only Nil w W) => ahead0 P B cap meet each n id W (h.only ho).h hf)
  have C7 := Lib.hid (fun W => aheadR cap meet each n id W hf)
  have C8 := Lib.hid (fun W (ho : Only Nil w W) => life0 P B cap meet each id W (h.only ho).h)
  have C9 := Lib.hid (fun W => lifeR cap meet each id W)
  have C10 := Lib.hid (fun W (ho : Only Nil w W) => about0' P B cap meet each id W (h.only ho).h)
  have C11 := Lib.hid (fun W => aboutR cap meet each id W)
  have C12 := Lib.hid (fun W (ho : Only Nil w W) => best0 P B cap meet each side fr tt W (h.only ho).h hf)
  have C13 := Lib.hid (fun W => bestR cap meet each side fr tt W hf)
  have HM2 := Lib.hid (fun W2 => numbers0o W2)
  unfold rh0 at C2 C4 C7 C9 C11 C13
  unfold ev0 at C1 C2
  unfold lf0 at C8 C9
  unfold Ck.bk0 at C3 C5
  unfold bkx at C4
  replace h := Lib.hid h
  replace hbp := Lib.hid hbp
  replace hbr := Lib.hid hbr
  conv => arg 2; whnf
  conv => arg 4; dsimp only
  go_upto_region 3 with fail
  go_cut [9, 10] from 31 to 244 (fun va vb W3 => ∃ bHJ : Nat, va = .pointer (some ⟨bHJ, 0, none⟩) ∧ vb = .int .i64 code ∧ Hid (W3.heap[bHJ]? = some (.cells #[.int .i64 c', .int .i64 m', .slice none 0 0, .slice none 0 0, .int .u64 0, .int .u64 0] Ck.tBk (0, 0))) ∧ Hid (Only Nil W W3))
  case first =>
    have HSof := Lib.hid (fun Y (ho : Only Nil W Y) => (by
      have hx := ho.blk HX.out (fun h => h)
      have ha := ho.blk HA.out (fun h => h)
      exact ⟨blk_cell hx 0, blk_cell hx 1, blk_cell hx 2, blk_cell hx 3, blk_cell hx 4, blk_cell ha 0, blk_cell ha 1, blk_cell ha 2, blk_cell ha 3, blk_cell ha 4, ho⟩ : Y.cell? ⟨X, 0, none⟩ = some (.pointer (some ⟨P, 0, none⟩)) ∧ Y.cell? ⟨X, 1, none⟩ = some (.int .i64 (cap : Int)) ∧ Y.cell? ⟨X, 2, none⟩ = some (.int .i64 (meet : Int)) ∧ Y.cell? ⟨X, 3, none⟩ = some (.int .i64 (each : Int)) ∧ Y.cell? ⟨X, 4, none⟩ = some (.slice none 0 0) ∧ Y.cell? ⟨S, 0, none⟩ = some (.int .u64 (n : Int)) ∧ Y.cell? ⟨S, 1, none⟩ = some (.int .u64 (fr : Int)) ∧ Y.cell? ⟨S, 2, none⟩ = some (.int .u64 (tt : Int)) ∧ Y.cell? ⟨S, 3, none⟩ = some (.int .u64 (id : Int)) ∧ Y.cell? ⟨S, 4, none⟩ = some (.int .i64 side) ∧ Only Nil W Y))
    have lX := blk_lt HX.out
    have lA := blk_lt HA.out
    go_wp2_with fail
    go_region_held3 (fun Y => Y.cell? ⟨X, 0, none⟩ = some (.pointer (some ⟨P, 0, none⟩)) ∧ Y.cell? ⟨X, 1, none⟩ = some (.int .i64 (cap : Int)) ∧ Y.cell? ⟨X, 2, none⟩ = some (.int .i64 (meet : Int)) ∧ Y.cell? ⟨X, 3, none⟩ = some (.int .i64 (each : Int)) ∧ Y.cell? ⟨X, 4, none⟩ = some (.slice none 0 0) ∧ Y.cell? ⟨S, 0, none⟩ = some (.int .u64 (n : Int)) ∧ Y.cell? ⟨S, 1, none⟩ = some (.int .u64 (fr : Int)) ∧ Y.cell? ⟨S, 2, none⟩ = some (.int .u64 (tt : Int)) ∧ Y.cell? ⟨S, 3, none⟩ = some (.int .u64 (id : Int)) ∧ Y.cell? ⟨S, 4, none⟩ = some (.int .i64 side) ∧ Only Nil W Y) (first | (with_reducible exact HSof.out _ (only_set6 (Only.trans (S := Nil) (T := Nil) (((Only.refl _ _).alloc _).drew) hog (fun _ _ h => h)) (Nat.le_refl _) _ _ _ _ _ _)) | (with_reducible exact HSof.out _ ((Only.trans (S := Nil) (T := Nil) (Only.refl _ _).drew hog (fun _ _ h => h)).alloc _)) | (with_reducible exact HSof.out _ (Only.trans (S := Nil) (T := Nil) (((Only.refl _ _).alloc _).drew) hog (fun _ _ h => h))) | (with_reducible exact HSof.out _ (((Only.refl _ _).drew).alloc _)) | (with_reducible exact HSof.out _ (((Only.refl _ _).alloc _).drew)) | (with_reducible exact HSof.out _ (Only.trans (S := Nil) (T := Nil) (Only.trans (S := Nil) (T := Nil) (Only.refl _ _).drew hog (fun _ _ h => h)) hog2 (fun _ _ h => h))) | (with_reducible exact HSof.out _ (Only.trans (S := Nil) (T := Nil) (Only.refl _ _).drew hog (fun _ _ h => h))) | (with_reducible exact HSof.out _ (Only.refl _ _).drew)) ((first | (go_at_call 21; go_split_ands; (refine (C3.out _ (Only.trans (S := Nil) (T := Nil) HO.out (by assumption) (fun _ _ h => h))).mono ?_); rintro e wg ⟨rfl, hog⟩; (first | ((with_reducible have hbx := hog.blk (blk_drew (blk_new W zBk)) (fun h => h)); have hCf := (fun k => blk_frozen hbx k); have hCl := blk_lt hbx; have hC0 := blk_cell hbx 0; have hC1 := blk_cell hbx 1; have hC2 := blk_cell hbx 2; have hC3 := blk_cell hbx 3; have hC4 := blk_cell hbx 4; have hC5 := blk_cell hbx 5; simp only [List.getElem?_toArray, List.getElem?_cons_zero, List.getElem?_cons_succ] at hC0 hC1 hC2 hC3 hC4 hC5) | skip))))
    · go_wp2
      go_meet
      case rel => exact ⟨_, rfl, rfl, Lib.hid (blk_new _ _), Lib.hid ((Only.trans (S := Nil) (T := Nil) (Only.refl _ _).drew hog (fun _ _ h => h)).alloc _)⟩
    · go_wp2
      go_meet
      case rel => exact ⟨_, rfl, rfl, Lib.hid (blk_set6 hbx _ _ _ _ _ _), Lib.hid (only_set6 (Only.trans (S := Nil) (T := Nil) (((Only.refl _ _).alloc _).drew) hog (fun _ _ h => h)) (Nat.le_refl _) _ _ _ _ _ _)⟩
  case rest =>
  obtain ⟨W3, rfl⟩ : ∃ x : World, x = wc := ⟨_, rfl⟩
  obtain ⟨bHJ, rfl, rfl, HJ, hoc⟩ := hcut
  replace HX := Lib.hid (hoc.out.blk HX.out (fun h => h))
  replace HA := Lib.hid (hoc.out.blk HA.out (fun h => h))
  replace HE := Lib.hid (hoc.out.blk HE.out (fun h => h))
  replace HF := Lib.hid (hoc.out.blk HF.out (fun h => h))
  replace HO := Lib.hid (HO.out.trans (S := Nil) hoc.out (fun _ _ h => h))
  clear hoc
  rename_i hk
  refine hk _ _ ?_
  clear hk
  exact asked_4 _ _ _ _ _ _ _ _ _ _ _ _ _ _ _ h.out hf hbp.out hbr.out _ _ _ _ _ _ _ _ _ _ _ _ _ _ _ _ _ _ _ _ _ _ _ _ _ _ _ _ _ _ _ _ _ _ _ _ _ _ _ _ _ _ _ _ _ _ _ _ _ _ _ _ _ _ _ _ _ _ _ _ _ _ _ _ _ _ _ _ _ _ _ _ _ _ _ _ _ _ _ _ _ _ _ _ _ _ _ _ _ _ _ _ _ _ _ _ _ _ _ _ _ _ _ _ _ _ _ _ _ _ _ _ _ _ _ _ _ _ _ _ _ _ _ _ _ _ _ _ _ _ _ _ _ _ _ _ _ _ _ _ _ _ _ _ _ _ _ _ _ _ _ _ _ _ _ _ _ _ _ _ _ _ _ _ _ _ _ _ _ _ _ _ _ _ _ _ _ _ _ _ _ _ _ _ _ _ _ _ _ _ _ _ _ _ _ _ _ _ _ _ _ _ _ _ _ _ _ _ _ _ _ _ _ _ _ _ _ _ _ HX HA HE HF HJ HO
set_option maxHeartbeats 40000000 in
set_option maxRecDepth 100000 in
theorem asked_2 (X P B cap meet each n fr tt id : Nat) (side c' m' code : Int) (w : World) (h : M0 w X P B cap meet each) (hf : Ck.fit cap meet = true)
    (hbp : ∀ W, Only Nil w W → Calls Tryz.prog 21 #[.pointer (some ⟨P, 0, none⟩), .int .u64 (n : Int)] W fun e w' => e = .returned (.tuple #[.agg (Ck.bk0 c' m'), .int .i64 code]) ∧ Only Nil W w')
    (hbr : ∀ W, Calls Tryz.prog 22 #[.agg (rh0 cap meet each), .int .u64 (n : Int)] W fun e w' => (∃ b1 b2, e = .returned (.tuple #[.agg (bkx c' m' b1 b2), .int .i64 code])) ∧ Only Nil W w')
    (S : Nat) (W : World) (bHE : Nat) (u31 u32 u33 u34 u35 u36 u37 u38 u39 u40 u41 u42 u43 u44 u45 u46 u47 u48 u49 u50 u51 u52 u53 u54 u55 u56 u57 u58 u59 u60 u61 u62 u63 u64 u65 u66 u67 u68 u69 u70 u71 u72 u73 u74 u75 u76 u77 u78 u79 u80 u81 u82 u83 u84 u85 u86 u87 u88 u89 u90 u91 u92 u93 u94 u95 u96 u97 u98 u99 u100 u101 u102 u103 u104 u105 u106 u107 u108 u109 u110 u111 u112 u113 u114 u115 u116 u117 u118 u119 u120 u121 u122 u123 u124 u125 u126 u127 u128 u129 u130 u131 u132 u133 u134 u135 u136 u137 u138 u139 u140 u141 u142 u143 u144 u145 u146 u147 u148 u149 u150 u151 u152 u153 u154 u155 u156 u157 u158 u159 u160 u161 u162 u163 u164 u165 u166 u167 u168 u169 u170 u171 u172 u173 u174 u175 u176 u177 u178 u179 u180 u181 u182 u183 u184 u185 u186 u187 u188 u189 u190 u191 u192 u193 u194 u195 u196 u197 u198 u199 u200 u201 u202 u203 u204 u205 u206 u207 u208 u209 u210 u211 u212 u213 u214 u215 u216 u217 u218 u219 u220 u221 u222 u223 u224 u225 u226 u227 u228 u229 u230 u231 u232 u233 u234 u235 u236 u237 u238 u239 u240 u241 u242 u243 u244 : Value)
    (HX : Hid (W.heap[X]? = some (.cells #[.pointer (some ⟨P, 0, none⟩), .int .i64 (cap : Int), .int .i64 (meet : Int), .int .i64 (each : Int), .slice none 0 0] tPr (0, 0)))) (HA : Hid (W.heap[S]? = some (.cells #[.int .u64 (n : Int), .int .u64 (fr : Int), .int .u64 (tt : Int), .int .u64 (id : Int), .int .i64 side] tAsk (0, 0)))) (HE : Hid (W.heap[bHE]? = some (.cells #[.int .u64 0, .int .i64 0, .int .u64 0, .int .u64 0, .int .u64 0, .int .u32 0, .int .i64 0, .int .i64 0, .int .i64 0, .int .u64 0, .int .u64 0, .int .i64 0, .int .i64 0] tEv (0, 0)))) (HO : Hid (Only Nil w W)) :
    Code.wp Tryz.prog (behind 2 (Tryz.f9.body.getD .skip)) (bodyPost Tryz.prog Tryz.f9 fun e w' => e = .returned (.bool true) ∧ Only Nil w w') ⟨#[.pointer (some ⟨X, 0, none⟩), .agg #[.int .u64 (n : Int), .int .u64 (fr : Int), .int .u64 (tt : Int), .int .u64 (id : Int), .int .i64 side], undef, .pointer (some ⟨S, 0, none⟩), .bool false, .pointer (some ⟨bHE, 0, none⟩), .int .i64 300, undef, undef, undef, undef, undef, undef, undef, undef, undef, undef, undef, undef, undef, undef, undef, undef, undef, undef, undef, undef, undef, undef, undef, undef, u31, u32, u33, u34, u35, u36, u37, u38, u39, u40, u41, u42, u43, u44, u45, u46, u47, u48, u49, u50, u51, u52, u53, u54, u55, u56, u57, u58, u59, u60, u61, u62, u63, u64, u65, u66, u67, u68, u69, u70, u71, u72, u73, u74, u75, u76, u77, u78, u79, u80, u81, u82, u83, u84, u85, u86, u87, u88, u89, u90, u91, u92, u93, u94, u95, u96, u97, u98, u99, u100, u101, u102, u103, u104, u105, u106, u107, u108, u109, u110, u111, u112, u113, u114, u115, u116, u117, u118, u119, u120, u121, u122, u123, u124, u125, u126, u127, u128, u129, u130, u131, u132, u133, u134, u135, u136, u137, u138, u139, u140, u141, u142, u143, u144, u145, u146, u147, u148, u149, u150, u151, u152, u153, u154, u155, u156, u157, u158, u159, u160, u161, u162, u163, u164, u165, u166, u167, u168, u169, u170, u171, u172, u173, u174, u175, u176, u177, u178, u179, u180, u181, u182, u183, u184, u185, u186, u187, u188, u189, u190, u191, u192, u193, u194, u195, u196, u197, u198, u199, u200, u201, u202, u203, u204, u205, u206, u207, u208, u209, u210, u211, u212, u213, u214, u215, u216, u217, u218, u219, u220, u221, u222, u223, u224, u225, u226, u227, u228, u229, u230, u231, u232, u233, u234, u235, u236, u237, u238, u239, u240, u241, u242, u243, u244], []⟩ W := by
  have C1 := Lib.hid (fun W (ho : Only Nil w W) => event0 n W (h.only ho).h)
  have C2 := Lib.hid (fun W => eventR n cap meet each W)
  have C3 := Lib.hid hbp
  have C4 := Lib.hid hbr
  have C5 := Lib.hid (fun b1 b2 W => Ck.same0 c' m' b1 b2 W)
  have C6 := Lib.hid (fun W (ho : Only Nil w W) => ahead0 P B cap meet each n id W (h.only ho).h hf)
  have C7 := Lib.hid (fun W => aheadR cap meet each n id W hf)
  have C8 := Lib.hid (fun W (ho : Only Nil w W) => life0 P B cap meet each id W (h.only ho).h)
  have C9 := Lib.hid (fun W => lifeR cap meet each id W)
  have C10 := Lib.hid (fun W (ho : Only Nil w W) => about0' P B cap meet each id W (h.only ho).h)
  have C11 := Lib.hid (fun W => aboutR cap meet each id W)
  have C12 := Lib.hid (fun W (ho : Only Nil w W) => best0 P B cap meet each side fr tt W (h.only ho).h hf)
  have C13 := Lib.hid (fun W => bestR cap meet each side fr tt W hf)
  have HM2 := Lib.hid (fun W2 => numbers0o W2)
  unfold rh0 at C2 C4 C7 C9 C11 C13
  unfold ev0 at C1 C2
  unfold lf0 at C8 C9
  unfold Ck.bk0 at C3 C5
  unfold bkx at C4
  replace h := Lib.hid h
  replace hbp := Lib.hid hbp
  replace hbr := Lib.hid hbr
  conv => arg 2; whnf
  conv => arg 4; dsimp only
  go_upto_region 2 with fail
  go_cut [7, 8] from 31 to 244 (fun va vb W2 => ∃ bHF : Nat, va = .pointer (some ⟨bHF, 0, none⟩) ∧ vb = .int .i64 300 ∧ Hid (W2.heap[bHF]? = some (.cells #[.int .u64 0, .int .i64 0, .int .u64 0, .int .u64 0, .int .u64 0, .int .u32 0, .int .i64 0, .int .i64 0, .int .i64 0, .int .u64 0, .int .u64 0, .int .i64 0, .int .i64 0] tEv (0, 0))) ∧ Hid (Only Nil W W2))
  case first =>
    have HSof := Lib.hid (fun Y (ho : Only Nil W Y) => (by
      have hx := ho.blk HX.out (fun h => h)
      have ha := ho.blk HA.out (fun h => h)
      exact ⟨blk_cell hx 0, blk_cell hx 1, blk_cell hx 2, blk_cell hx 3, blk_cell hx 4, blk_cell ha 0, blk_cell ha 1, blk_cell ha 2, blk_cell ha 3, blk_cell ha 4, ho⟩ : Y.cell? ⟨X, 0, none⟩ = some (.pointer (some ⟨P, 0, none⟩)) ∧ Y.cell? ⟨X, 1, none⟩ = some (.int .i64 (cap : Int)) ∧ Y.cell? ⟨X, 2, none⟩ = some (.int .i64 (meet : Int)) ∧ Y.cell? ⟨X, 3, none⟩ = some (.int .i64 (each : Int)) ∧ Y.cell? ⟨X, 4, none⟩ = some (.slice none 0 0) ∧ Y.cell? ⟨S, 0, none⟩ = some (.int .u64 (n : Int)) ∧ Y.cell? ⟨S, 1, none⟩ = some (.int .u64 (fr : Int)) ∧ Y.cell? ⟨S, 2, none⟩ = some (.int .u64 (tt : Int)) ∧ Y.cell? ⟨S, 3, none⟩ = some (.int .u64 (id : Int)) ∧ Y.cell? ⟨S, 4, none⟩ = some (.int .i64 side) ∧ Only Nil W Y))
    have lX := blk_lt HX.out
    have lA := blk_lt HA.out
    go_wp2_with fail
    go_region_held3 (fun Y => Y.cell? ⟨X, 0, none⟩ = some (.pointer (some ⟨P, 0, none⟩)) ∧ Y.cell? ⟨X, 1, none⟩ = some (.int .i64 (cap : Int)) ∧ Y.cell? ⟨X, 2, none⟩ = some (.int .i64 (meet : Int)) ∧ Y.cell? ⟨X, 3, none⟩ = some (.int .i64 (each : Int)) ∧ Y.cell? ⟨X, 4, none⟩ = some (.slice none 0 0) ∧ Y.cell? ⟨S, 0, none⟩ = some (.int .u64 (n : Int)) ∧ Y.cell? ⟨S, 1, none⟩ = some (.int .u64 (fr : Int)) ∧ Y.cell? ⟨S, 2, none⟩ = some (.int .u64 (tt : Int)) ∧ Y.cell? ⟨S, 3, none⟩ = some (.int .u64 (id : Int)) ∧ Y.cell? ⟨S, 4, none⟩ = some (.int .i64 side) ∧ Only Nil W Y) (first | (with_reducible exact HSof.out _ (only_set13 (Only.trans (S := Nil) (T := Nil) (((Only.refl _ _).alloc _).drew) hog (fun _ _ h => h)) (Nat.le_refl _) _ _ _ _ _ _ _ _ _ _ _ _ _)) | (with_reducible exact HSof.out _ ((Only.trans (S := Nil) (T := Nil) (Only.refl _ _).drew hog (fun _ _ h => h)).alloc _)) | (with_reducible exact HSof.out _ (Only.trans (S := Nil) (T := Nil) (((Only.refl _ _).alloc _).drew) hog (fun _ _ h => h))) | (with_reducible exact HSof.out _ (((Only.refl _ _).drew).alloc _)) | (with_reducible exact HSof.out _ (((Only.refl _ _).alloc _).drew)) | (with_reducible exact HSof.out _ (Only.trans (S := Nil) (T := Nil) (Only.trans (S := Nil) (T := Nil) (Only.refl _ _).drew hog (fun _ _ h => h)) hog2 (fun _ _ h => h))) | (with_reducible exact HSof.out _ (Only.trans (S := Nil) (T := Nil) (Only.refl _ _).drew hog (fun _ _ h => h))) | (with_reducible exact HSof.out _ (Only.refl _ _).drew)) ((first | (go_at_call 20; go_split_ands; (refine (C2.out _).mono ?_); rintro e wg ⟨rfl, hog⟩; (first | ((with_reducible have hbx := hog.blk (blk_drew (blk_new W zEv)) (fun h => h)); have hCf := (fun k => blk_frozen hbx k); have hCl := blk_lt hbx; have hC0 := blk_cell hbx 0; have hC1 := blk_cell hbx 1; have hC2 := blk_cell hbx 2; have hC3 := blk_cell hbx 3; have hC4 := blk_cell hbx 4; have hC5 := blk_cell hbx 5; have hC6 := blk_cell hbx 6; have hC7 := blk_cell hbx 7; have hC8 := blk_cell hbx 8; have hC9 := blk_cell hbx 9; have hC10 := blk_cell hbx 10; have hC11 := blk_cell hbx 11; have hC12 := blk_cell hbx 12; simp only [List.getElem?_toArray, List.getElem?_cons_zero, List.getElem?_cons_succ] at hC0 hC1 hC2 hC3 hC4 hC5 hC6 hC7 hC8 hC9 hC10 hC11 hC12) | skip))))
    · go_wp2
      go_meet
      case rel => exact ⟨_, rfl, rfl, Lib.hid (blk_new _ _), Lib.hid ((Only.trans (S := Nil) (T := Nil) (Only.refl _ _).drew hog (fun _ _ h => h)).alloc _)⟩
    · go_wp2
      go_meet
      case rel => exact ⟨_, rfl, rfl, Lib.hid (blk_set13 hbx _ _ _ _ _ _ _ _ _ _ _ _ _), Lib.hid (only_set13 (Only.trans (S := Nil) (T := Nil) (((Only.refl _ _).alloc _).drew) hog (fun _ _ h => h)) (Nat.le_refl _) _ _ _ _ _ _ _ _ _ _ _ _ _)⟩
  case rest =>
  obtain ⟨W2, rfl⟩ : ∃ x : World, x = wc := ⟨_, rfl⟩
  obtain ⟨bHF, rfl, rfl, HF, hoc⟩ := hcut
  replace HX := Lib.hid (hoc.out.blk HX.out (fun h => h))
  replace HA := Lib.hid (hoc.out.blk HA.out (fun h => h))
  replace HE := Lib.hid (hoc.out.blk HE.out (fun h => h))
  replace HO := Lib.hid (HO.out.trans (S := Nil) hoc.out (fun _ _ h => h))
  clear hoc
  rename_i hk
  refine hk _ _ ?_
  clear hk
  exact asked_3 _ _ _ _ _ _ _ _ _ _ _ _ _ _ _ h.out hf hbp.out hbr.out _ _ _ _ _ _ _ _ _ _ _ _ _ _ _ _ _ _ _ _ _ _ _ _ _ _ _ _ _ _ _ _ _ _ _ _ _ _ _ _ _ _ _ _ _ _ _ _ _ _ _ _ _ _ _ _ _ _ _ _ _ _ _ _ _ _ _ _ _ _ _ _ _ _ _ _ _ _ _ _ _ _ _ _ _ _ _ _ _ _ _ _ _ _ _ _ _ _ _ _ _ _ _ _ _ _ _ _ _ _ _ _ _ _ _ _ _ _ _ _ _ _ _ _ _ _ _ _ _ _ _ _ _ _ _ _ _ _ _ _ _ _ _ _ _ _ _ _ _ _ _ _ _ _ _ _ _ _ _ _ _ _ _ _ _ _ _ _ _ _ _ _ _ _ _ _ _ _ _ _ _ _ _ _ _ _ _ _ _ _ _ _ _ _ _ _ _ _ _ _ _ _ _ _ _ _ _ _ _ _ _ _ _ _ _ _ _ _ HX HA HE HF HO
set_option maxHeartbeats 40000000 in
set_option maxRecDepth 100000 in
theorem asked_core (X P B cap meet each n fr tt id : Nat) (side c' m' code : Int) (w : World) (h : M0 w X P B cap meet each) (hf : Ck.fit cap meet = true)
    (hbp : ∀ W, Only Nil w W → Calls Tryz.prog 21 #[.pointer (some ⟨P, 0, none⟩), .int .u64 (n : Int)] W fun e w' => e = .returned (.tuple #[.agg (Ck.bk0 c' m'), .int .i64 code]) ∧ Only Nil W w')
    (hbr : ∀ W, Calls Tryz.prog 22 #[.agg (rh0 cap meet each), .int .u64 (n : Int)] W fun e w' => (∃ b1 b2, e = .returned (.tuple #[.agg (bkx c' m' b1 b2), .int .i64 code])) ∧ Only Nil W w') :
    Calls Tryz.prog 9 #[.pointer (some ⟨X, 0, none⟩), .agg #[.int .u64 (n : Int), .int .u64 (fr : Int), .int .u64 (tt : Int), .int .u64 (id : Int), .int .i64 side]] w fun e w' => e = .returned (.bool true) ∧ Only Nil w w' := by
  have C1 := Lib.hid (fun W (ho : Only Nil w W) => event0 n W (h.only ho).h)
  have C2 := Lib.hid (fun W => eventR n cap meet each W)
  have C3 := Lib.hid hbp
  have C4 := Lib.hid hbr
  have C5 := Lib.hid (fun b1 b2 W => Ck.same0 c' m' b1 b2 W)
  have C6 := Lib.hid (fun W (ho : Only Nil w W) => ahead0 P B cap meet each n id W (h.only ho).h hf)
  have C7 := Lib.hid (fun W => aheadR cap meet each n id W hf)
  have C8 := Lib.hid (fun W (ho : Only Nil w W) => life0 P B cap meet each id W (h.only ho).h)
  have C9 := Lib.hid (fun W => lifeR cap meet each id W)
  have C10 := Lib.hid (fun W (ho : Only Nil w W) => about0' P B cap meet each id W (h.only ho).h)
  have C11 := Lib.hid (fun W => aboutR cap meet each id W)
  have C12 := Lib.hid (fun W (ho : Only Nil w W) => best0 P B cap meet each side fr tt W (h.only ho).h hf)
  have C13 := Lib.hid (fun W => bestR cap meet each side fr tt W hf)
  have HM2 := Lib.hid (fun W2 => numbers0o W2)
  unfold rh0 at C2 C4 C7 C9 C11 C13
  unfold ev0 at C1 C2
  unfold lf0 at C8 C9
  unfold Ck.bk0 at C3 C5
  unfold bkx at C4
  replace h := Lib.hid h
  replace hbp := Lib.hid hbp
  replace hbr := Lib.hid hbr
  have HX := Lib.hid (blk_alloc h.out.x (.cells #[.int .u64 (n : Int), .int .u64 (fr : Int), .int .u64 (tt : Int), .int .u64 (id : Int), .int .i64 side] tAsk))
  have HA := Lib.hid (blk_new w (.cells #[.int .u64 (n : Int), .int .u64 (fr : Int), .int .u64 (tt : Int), .int .u64 (id : Int), .int .i64 side] tAsk))
  have HO := Lib.hid ((Only.refl Nil w).alloc (.cells #[.int .u64 (n : Int), .int .u64 (fr : Int), .int .u64 (tt : Int), .int .u64 (id : Int), .int .i64 side] tAsk))
  go_enter Tryz.func9, Tryz.ntmps9
  go_upto_region 1 with fail
  generalize hS : w.heap.size = S at *
  generalize w.alloc (.cells #[.int .u64 (n : Int), .int .u64 (fr : Int), .int .u64 (tt : Int), .int .u64 (id : Int), .int .i64 side] tAsk) = W at *
  clear hS
  go_upto_region 1 with fail
  go_cut [5, 6] from 31 to 244 (fun va vb W1 => ∃ bHE : Nat, va = .pointer (some ⟨bHE, 0, none⟩) ∧ vb = .int .i64 300 ∧ Hid (W1.heap[bHE]? = some (.cells #[.int .u64 0, .int .i64 0, .int .u64 0, .int .u64 0, .int .u64 0, .int .u32 0, .int .i64 0, .int .i64 0, .int .i64 0, .int .u64 0, .int .u64 0, .int .i64 0, .int .i64 0] tEv (0, 0))) ∧ Hid (Only Nil W W1))
  case first =>
    have HSof := Lib.hid (fun Y (ho : Only Nil W Y) => (by
      have hx := ho.blk HX.out (fun h => h)
      have ha := ho.blk HA.out (fun h => h)
      exact ⟨blk_cell hx 0, blk_cell hx 1, blk_cell hx 2, blk_cell hx 3, blk_cell hx 4, blk_cell ha 0, blk_cell ha 1, blk_cell ha 2, blk_cell ha 3, blk_cell ha 4, ho⟩ : Y.cell? ⟨X, 0, none⟩ = some (.pointer (some ⟨P, 0, none⟩)) ∧ Y.cell? ⟨X, 1, none⟩ = some (.int .i64 (cap : Int)) ∧ Y.cell? ⟨X, 2, none⟩ = some (.int .i64 (meet : Int)) ∧ Y.cell? ⟨X, 3, none⟩ = some (.int .i64 (each : Int)) ∧ Y.cell? ⟨X, 4, none⟩ = some (.slice none 0 0) ∧ Y.cell? ⟨S, 0, none⟩ = some (.int .u64 (n : Int)) ∧ Y.cell? ⟨S, 1, none⟩ = some (.int .u64 (fr : Int)) ∧ Y.cell? ⟨S, 2, none⟩ = some (.int .u64 (tt : Int)) ∧ Y.cell? ⟨S, 3, none⟩ = some (.int .u64 (id : Int)) ∧ Y.cell? ⟨S, 4, none⟩ = some (.int .i64 side) ∧ Only Nil W Y))
    have lX := blk_lt HX.out
    have lA := blk_lt HA.out
    go_wp2_with fail
    go_region_held3 (fun Y => Y.cell? ⟨X, 0, none⟩ = some (.pointer (some ⟨P, 0, none⟩)) ∧ Y.cell? ⟨X, 1, none⟩ = some (.int .i64 (cap : Int)) ∧ Y.cell? ⟨X, 2, none⟩ = some (.int .i64 (meet : Int)) ∧ Y.cell? ⟨X, 3, none⟩ = some (.int .i64 (each : Int)) ∧ Y.cell? ⟨X, 4, none⟩ = some (.slice none 0 0) ∧ Y.cell? ⟨S, 0, none⟩ = some (.int .u64 (n : Int)) ∧ Y.cell? ⟨S, 1, none⟩ = some (.int .u64 (fr : Int)) ∧ Y.cell? ⟨S, 2, none⟩ = some (.int .u64 (tt : Int)) ∧ Y.cell? ⟨S, 3, none⟩ = some (.int .u64 (id : Int)) ∧ Y.cell? ⟨S, 4, none⟩ = some (.int .i64 side) ∧ Only Nil W Y) (first | (with_reducible exact HSof.out _ (only_set13 (Only.trans (S := Nil) (T := Nil) (((Only.refl _ _).alloc _).drew) hog (fun _ _ h => h)) (Nat.le_refl _) _ _ _ _ _ _ _ _ _ _ _ _ _)) | (with_reducible exact HSof.out _ ((Only.trans (S := Nil) (T := Nil) (Only.refl _ _).drew hog (fun _ _ h => h)).alloc _)) | (with_reducible exact HSof.out _ (Only.trans (S := Nil) (T := Nil) (((Only.refl _ _).alloc _).drew) hog (fun _ _ h => h))) | (with_reducible exact HSof.out _ (((Only.refl _ _).drew).alloc _)) | (with_reducible exact HSof.out _ (((Only.refl _ _).alloc _).drew)) | (with_reducible exact HSof.out _ (Only.trans (S := Nil) (T := Nil) (Only.trans (S := Nil) (T := Nil) (Only.refl _ _).drew hog (fun _ _ h => h)) hog2 (fun _ _ h => h))) | (with_reducible exact HSof.out _ (Only.trans (S := Nil) (T := Nil) (Only.refl _ _).drew hog (fun _ _ h => h))) | (with_reducible exact HSof.out _ (Only.refl _ _).drew)) ((first | (go_at_call 19; go_split_ands; (refine (C1.out _ (Only.trans (S := Nil) (T := Nil) HO.out (by assumption) (fun _ _ h => h))).mono ?_); rintro e wg ⟨rfl, hog⟩; (first | ((with_reducible have hbx := hog.blk (blk_drew (blk_new W zEv)) (fun h => h)); have hCf := (fun k => blk_frozen hbx k); have hCl := blk_lt hbx; have hC0 := blk_cell hbx 0; have hC1 := blk_cell hbx 1; have hC2 := blk_cell hbx 2; have hC3 := blk_cell hbx 3; have hC4 := blk_cell hbx 4; have hC5 := blk_cell hbx 5; have hC6 := blk_cell hbx 6; have hC7 := blk_cell hbx 7; have hC8 := blk_cell hbx 8; have hC9 := blk_cell hbx 9; have hC10 := blk_cell hbx 10; have hC11 := blk_cell hbx 11; have hC12 := blk_cell hbx 12; simp only [List.getElem?_toArray, List.getElem?_cons_zero, List.getElem?_cons_succ] at hC0 hC1 hC2 hC3 hC4 hC5 hC6 hC7 hC8 hC9 hC10 hC11 hC12) | skip))))
    · go_wp2
      go_meet
      case rel => exact ⟨_, rfl, rfl, Lib.hid (blk_new _ _), Lib.hid ((Only.trans (S := Nil) (T := Nil) (Only.refl _ _).drew hog (fun _ _ h => h)).alloc _)⟩
    · go_wp2
      go_meet
      case rel => exact ⟨_, rfl, rfl, Lib.hid (blk_set13 hbx _ _ _ _ _ _ _ _ _ _ _ _ _), Lib.hid (only_set13 (Only.trans (S := Nil) (T := Nil) (((Only.refl _ _).alloc _).drew) hog (fun _ _ h => h)) (Nat.le_refl _) _ _ _ _ _ _ _ _ _ _ _ _ _)⟩
  case rest =>
  obtain ⟨W1, rfl⟩ : ∃ x : World, x = wc := ⟨_, rfl⟩
  obtain ⟨bHE, rfl, rfl, HE, hoc⟩ := hcut
  replace HX := Lib.hid (hoc.out.blk HX.out (fun h => h))
  replace HA := Lib.hid (hoc.out.blk HA.out (fun h => h))
  replace HO := Lib.hid (HO.out.trans (S := Nil) hoc.out (fun _ _ h => h))
  clear hoc
  rename_i hk
  refine hk _ _ ?_
  clear hk
  exact asked_2 _ _ _ _ _ _ _ _ _ _ _ _ _ _ _ h.out hf hbp.out hbr.out _ _ _ _ _ _ _ _ _ _ _ _ _ _ _ _ _ _ _ _ _ _ _ _ _ _ _ _ _ _ _ _ _ _ _ _ _ _ _ _ _ _ _ _ _ _ _ _ _ _ _ _ _ _ _ _ _ _ _ _ _ _ _ _ _ _ _ _ _ _ _ _ _ _ _ _ _ _ _ _ _ _ _ _ _ _ _ _ _ _ _ _ _ _ _ _ _ _ _ _ _ _ _ _ _ _ _ _ _ _ _ _ _ _ _ _ _ _ _ _ _ _ _ _ _ _ _ _ _ _ _ _ _ _ _ _ _ _ _ _ _ _ _ _ _ _ _ _ _ _ _ _ _ _ _ _ _ _ _ _ _ _ _ _ _ _ _ _ _ _ _ _ _ _ _ _ _ _ _ _ _ _ _ _ _ _ _ _ _ _ _ _ _ _ _ _ _ _ _ _ _ _ _ _ _ _ _ _ _ _ _ _ _ _ _ _ _ HX HA HE HO
end Hs
end Go.Proofs.YtnhedhmffgaohaaGreat
