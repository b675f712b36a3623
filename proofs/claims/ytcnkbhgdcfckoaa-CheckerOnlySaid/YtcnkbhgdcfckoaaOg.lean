/- The walks of Open, whole, and of Check. -/
import Derived.Test.YtcnkbhgdcfckoaaMu
import Derived.Test.YtcnkbhgdcfckoaaMe
import Derived.Test.YtcnkbhgdcfckoaaMv
import Derived.Test.YtcnkbhgdcfckoaaNa
import Derived.Deep.LoopGhost
set_option linter.unusedVariables false
set_option linter.unusedSimpArgs false
namespace Go.Proofs.Ytcnkbhgdcfckoaa
open Go.RowKit
namespace Ck
theorem openP_any (C : Nat) (x : Pk) (v1 v2 p6 p7 : Value) (w : World) (h : PkAt w C x v1 v2 p6 p7) :
    Calls Try.prog 15 #[.pointer (some ⟨C, 0, none⟩)] w fun e w' => e = .returned (.bool x.isOpen) ∧ w' = w := by
  rcases h.now with ⟨n1, rfl⟩ | ⟨c, G, n1, rfl, _⟩
  · rcases h.ins with ⟨i1, rfl⟩ | ⟨m, s, k, H, i1, rfl, _⟩
    · have hq : x.isOpen = ((none : Option Addr).isSome || (none : Option Addr).isSome) := by unfold Pk.isOpen; rw [n1, i1]; rfl
      rw [hq]; exact open_any C x.b v1 v2 _ _ w h.rep
    · have hq : x.isOpen = ((none : Option Addr).isSome || (some (⟨H, 0, none⟩ : Addr)).isSome) := by unfold Pk.isOpen; rw [n1, i1]; rfl
      rw [hq]; exact open_any C x.b v1 v2 _ _ w h.rep
  · rcases h.ins with ⟨i1, rfl⟩ | ⟨m, s, k, H, i1, rfl, _⟩
    · have hq : x.isOpen = ((some (⟨G, 0, none⟩ : Addr)).isSome || (none : Option Addr).isSome) := by unfold Pk.isOpen; rw [n1, i1]; rfl
      rw [hq]; exact open_any C x.b v1 v2 _ _ w h.rep
    · have hq : x.isOpen = ((some (⟨G, 0, none⟩ : Addr)).isSome || (some (⟨H, 0, none⟩ : Addr)).isSome) := by unfold Pk.isOpen; rw [n1, i1]; rfl
      rw [hq]; exact open_any C x.b v1 v2 _ _ w h.rep
theorem gete7 {w : World} {A : Option Addr} {n c i : Nat} {l : List Ev} {r : Ev} (h : LE w (.slice A n c) l) (hr : l[i]? = some r) : ∃ g off, A = some ⟨g, off, none⟩ ∧ n = l.length ∧ i < l.length ∧ g < w.heap.size ∧ ∀ k u, k < 13 → r.cells[k]? = some u → w.cell? ⟨g, off + i * 13 + k, none⟩ = some u := by
  have hi := (List.getElem?_eq_some_iff.1 hr).1
  obtain ⟨g, off, c', cs, h1, h2, h3⟩ := h.row (by intro e; rw [e] at hr; simp at hr)
  injection h1 with e1 e2 _
  exact ⟨g, off, e1, e2, hi, blk_lt h2, fun k u hk hu => by
    rw [blk_cell h2, Nat.add_assoc]
    exact h3 _ _ (by rw [lay_get (fun a _ => a.len) hr hk]; exact hu)⟩
def IsSl7 (v : Value) : Prop := ∃ A n c, v = .slice A n c
theorem check_cons (x : Pk) (e : Ev) (k : Nat) (l : List Ev) : checkGo x k (e :: l) = if (x.add e).1 = 0 then checkGo (x.add e).2 (k + 1) l else (k, (x.add e).1) := rfl
/-- A checker that was made behind w stands in W. -/
def CkW (w : World) (C : Nat) (x : Pk) (W : World) : Prop := x.ok ∧ ∃ v1 v2 p6 p7, PkAt W C x v1 v2 p6 p7 ∧ (∀ k, Hers C v1 v2 p6 k → w.heap.size ≤ k) ∧ Only Nil w W
theorem CkW.nil {w W W1 : World} {C : Nat} {x : Pk} (h : CkW w C x W) (ho : Only Nil W W1) : CkW w C x W1 := by
  obtain ⟨h1, v1, v2, p6, p7, h2, h3, h4⟩ := h
  exact ⟨h1, v1, v2, p6, p7, h2.nil ho, h3, h4.trans ho (fun _ _ q => q)⟩
theorem CkW.only {w W : World} {C : Nat} {x : Pk} (h : CkW w C x W) : Only Nil w W := by
  obtain ⟨_, _, _, _, _, _, _, h4⟩ := h
  exact h4
theorem ck0_at {w W : World} {C : Nat} {cap meet : Int} (hf : fit cap meet = true) (hb : W.heap[C]? = some (.cells (ck0 cap meet) tC (0, 0))) (hC : w.heap.size ≤ C) (ho : Only Nil w W) : CkW w C (pk0 cap meet) W := by
  refine ⟨pk0_ok hf, .slice none 0 0, .slice none 0 0, .pointer none, .pointer none, ⟨⟨hb, ⟨rfl, .inl ⟨rfl, rfl⟩⟩, ⟨rfl, .inl ⟨rfl, rfl⟩⟩, fun k hk => by cases hk⟩, .inl ⟨rfl, rfl⟩, .inl ⟨rfl, rfl⟩⟩, ?_, ho⟩
  intro k hk
  rcases hk with (hk | hk | hk) | hk
  · exact hk ▸ hC
  · cases hk
  · cases hk
  · cases hk
/-- Add upon such a checker. -/
theorem addW_any {w W : World} {C : Nat} {x : Pk} (e : Ev) (h : CkW w C x W) (hw : e.wf) :
    Calls Try.prog 13 #[.pointer (some ⟨C, 0, none⟩), .agg e.row] W fun r W' => r = .returned (.int .i64 (x.add e).1) ∧ CkW w C (x.add e).2 W' := by
  obtain ⟨h1, v1, v2, p6, p7, h2, h3, h4⟩ := h
  refine (add_any C x e v1 v2 p6 p7 W h2 h1 hw).mono ?_
  rintro r W' ⟨rfl, u1, u2, u6, u7, hp, hfr, hnp, ho⟩
  refine ⟨rfl, add_ok h1 hw, u1, u2, u6, u7, hp, ?_, h4.trans ho (fun k hk q => by have := h3 k q; omega)⟩
  have hs := h4.size
  intro k hk
  rcases hk with hk | hk
  · rcases hfr k hk with q | q
    · exact h3 k (.inl q)
    · omega
  · rcases hnp with q | q | ⟨G, q, hG⟩
    · exact h3 k (.inr (by rw [← q]; exact hk))
    · rw [q] at hk; cases hk
    · rw [q] at hk
      injection hk with hk
      injection hk with hk
      injection hk with hk
      omega
theorem openW_any {w W : World} {C : Nat} {x : Pk} (h : CkW w C x W) :
    Calls Try.prog 15 #[.pointer (some ⟨C, 0, none⟩)] W fun e W' => e = .returned (.bool x.isOpen) ∧ W' = W := by
  obtain ⟨h1, v1, v2, p6, p7, h2, h3, h4⟩ := h
  exact openP_any C x v1 v2 p6 p7 W h2
set_option maxHeartbeats 1600000 in
set_option maxRecDepth 100000 in
theorem check_no (cap meet : Int) (v : Value) (w : World) (hf : fit cap meet = false) (hv : IsSl7 v) :
    Calls Try.prog 5 #[.agg #[.int .i64 cap, .int .i64 meet], v] w fun r w' => r = .returned (.tuple #[.int .i64 0, .int .i64 1]) ∧ Only Nil w w' := by
  obtain ⟨A, n, c, rfl⟩ := hv
  have HN := Lib.hid (fun W => newP_no cap meet W hf)
  clear hf
  go_enter Try.func5, Try.ntmps5
  go_wp2_with fail
  refine (HN.out _).mono ?_
  rintro r w1 ⟨rfl, ho⟩
  have HO := Lib.hid (((Only.refl Nil w).alloc _).trans (S := Nil) ho (fun _ _ q => q))
  go_wp2
  go_ret2
  exact ⟨rfl, HO.out⟩
set_option maxHeartbeats 1600000 in
set_option maxRecDepth 100000 in
theorem check_yes (cap meet : Int) (v : Value) (l : List Ev) (w : World) (h : LE w v l) (hw : ∀ e ∈ l, e.wf) (hf : fit cap meet = true) :
    Calls Try.prog 5 #[.agg #[.int .i64 cap, .int .i64 meet], v] w fun r w' => r = .returned (.tuple #[.int .i64 (checkGo (pk0 cap meet) 0 l).1, .int .i64 (checkGo (pk0 cap meet) 0 l).2]) ∧ Only Nil w w' := by
  obtain ⟨A, c, rfl, hc1, hc2⟩ := h.sl
  have hlm : l.length ≤ 9223372036854775807 := by omega
  have HL := Lib.hid h
  have HN := Lib.hid (fun W => newP_yes cap meet W hf)
  have HF := Lib.hid hf
  have HWf := Lib.hid hw
  clear h hf hw hc1 hc2
  go_enter Try.func5, Try.ntmps5
  go_wp2_with fail
  refine (HN.out _).mono ?_
  rintro r w1 ⟨⟨C, rfl, hC, hb⟩, ho⟩
  have HI0 : Hid (CkW w C (pk0 cap meet) w1) := Lib.hid (ck0_at HF.out hb (by simp at hC; omega) (((Only.refl Nil w).alloc _).trans (S := Nil) ho (fun _ _ q => q)))
  clear ho hb hC HN
  go_wp2_with fail
  go_loopg [8, 9, 10, 21] (l.length) (fun m v8 v9 v10 v21 wr => ∃ k : Nat, k ≤ l.length ∧ m = l.length - k ∧ v21 = .int .i64 k ∧ Hid (∃ x, CkW w C x wr ∧ checkGo (pk0 cap meet) 0 l = checkGo x k (l.drop k)))
  case atStart => exact ⟨0, by omega, by omega, rfl, Lib.hid ⟨_, HI0.out, rfl⟩⟩
  case round =>
    obtain ⟨k, hk, hm, rfl, HR⟩ := hrel
    have HMs := Lib.hid hm
    clear hm HI0
    obtain ⟨x, hx1, hx2⟩ := HR.out
    have HX := Lib.hid hx1
    have HG := Lib.hid hx2
    clear hx1 hx2 HR
    by_cases hlt : k < l.length
    · have hkI : (k : Int) < (l.length : Int) := by omega
      have hx : l[k]? = some l[k] := List.getElem?_eq_getElem hlt
      have hd : l.drop k = l[k] :: l.drop (k + 1) := List.drop_eq_getElem_cons hlt
      have hwf := HWf.out l[k] (List.getElem_mem hlt)
      obtain ⟨g, off, rfl, _, _, hg, ha⟩ := gete7 (HL.out.nil HX.out.only) hx
      have a0 := ha 0 _ (by omega) rfl
      have a1 := ha 1 _ (by omega) rfl
      have a2 := ha 2 _ (by omega) rfl
      have a3 := ha 3 _ (by omega) rfl
      have a4 := ha 4 _ (by omega) rfl
      have a5 := ha 5 _ (by omega) rfl
      have a6 := ha 6 _ (by omega) rfl
      have a7 := ha 7 _ (by omega) rfl
      have a8 := ha 8 _ (by omega) rfl
      have a9 := ha 9 _ (by omega) rfl
      have a10 := ha 10 _ (by omega) rfl
      have a11 := ha 11 _ (by omega) rfl
      have a12 := ha 12 _ (by omega) rfl
      simp only [Nat.add_zero] at a0
      generalize l[k] = e at *
      have HW1 := Lib.hid hwf
      have HD := Lib.hid hd
      clear ha hx hwf hd
      go_upto_region 7 with fail
      generalize hW : World.alloc wr _ = W2
      have hW' : wr.alloc (.cells e.row tEvt) = W2 := hW
      have ho2 : Only Nil wr W2 := by rw [← hW']; exact (Only.refl _ _).alloc _
      have HE2 : Hid (W2.heap[wr.heap.size]? = some (.cells e.row tEvt (0, 0))) := Lib.hid (by rw [← hW']; exact blk_new _ _)
      have HX2 := Lib.hid (HX.out.nil ho2)
      clear hW hW' ho2 HX a0 a1 a2 a3 a4 a5 a6 a7 a8 a9 a10 a11 a12 hg
      generalize wr.heap.size = E at *
      obtain ⟨e0, e1, e2, e3, e4, e5, e6, e7, e8, e9, e10, e11, e12, ef, el⟩ := ev_cells HE2.out
      have HAd := Lib.hid (addW_any e HX2.out HW1.out)
      have HGc := Lib.hid (check_cons x e k (l.drop (k + 1)))
      generalize x.add e = q at *
      obtain ⟨code, x'⟩ := q
      simp only at HAd HGc
      go_wp2_with fail
      refine HAd.out.mono ?_
      rintro r w3 ⟨rfl, hx3⟩
      have HX3 := Lib.hid hx3
      clear hx3 HAd e0 e1 e2 e3 e4 e5 e6 e7 e8 e9 e10 e11 e12 ef el
      by_cases hz : code = 0
      · have hzb : (code != 0) = false := by simp [hz]
        have HG1 : Hid (checkGo (pk0 cap meet) 0 l = checkGo x' (k + 1) (l.drop (k + 1))) := Lib.hid (by rw [HG.out, HD.out, HGc.out, if_pos hz])
        clear hz
        go_wp2
        go_roundg (l.length - (k + 1))
        case measure => have := HMs.out; omega
        case rel => exact ⟨k + 1, by omega, rfl, by go_num, Lib.hid ⟨_, HX3.out, HG1.out⟩⟩
      · have hzb : (code != 0) = true := by simp [hz]
        have HG1 : Hid (checkGo (pk0 cap meet) 0 l = (k, code)) := Lib.hid (by rw [HG.out, HD.out, HGc.out, if_neg hz])
        clear hz
        go_wp2
        go_ret2
        exact ⟨by rw [HG1.out]; rfl, HX3.out.only⟩
    · have he : k = l.length := by omega
      subst he
      have hkI : ¬ ((l.length : Int) < (l.length : Int)) := by omega
      have HOp := Lib.hid (openW_any HX.out)
      rw [List.drop_length] at HG
      generalize hb : x.isOpen = b at *
      have HBq := Lib.hid hb
      clear hb
      go_wp2_with fail
      refine HOp.out.mono ?_
      rintro r w3 ⟨rfl, rfl⟩
      cases b with
      | true =>
        have HG1 : Hid (checkGo (pk0 cap meet) 0 l = (l.length, 196)) := Lib.hid (by rw [HG.out]; unfold checkGo; rw [if_pos HBq.out])
        go_wp2
        go_ret2
        exact ⟨by rw [HG1.out]; rfl, HX.out.only⟩
      | false =>
        have HG1 : Hid (checkGo (pk0 cap meet) 0 l = (l.length, 0)) := Lib.hid (by rw [HG.out]; unfold checkGo; rw [if_neg (by rw [HBq.out]; simp)])
        go_wp2
        go_ret2
        exact ⟨by rw [HG1.out]; rfl, HX.out.only⟩
end Ck
end Go.Proofs.Ytcnkbhgdcfckoaa
