/- The commands' forms: the document's table, the program's map. -/
import Derived.Test.YtnhedhmffgaohaaDoorPaQ
namespace Go.Proofs.YtnhedhmffgaohaaDoor
open Go.RowKit
namespace Pa
def tbl : List (ByteArray × ByteArray) := [(⟨#[109, 97, 114, 107, 101, 116]⟩, ⟨#[105, 105, 105, 110]⟩), (⟨#[108, 105, 115, 116]⟩, ⟨#[78, 105, 105, 105, 105, 105, 105, 105, 105, 105]⟩), (⟨#[106, 111, 105, 110]⟩, ⟨#[109, 110, 110, 105, 110, 110, 110, 110]⟩), (⟨#[112, 97, 121]⟩, ⟨#[109, 110]⟩), (⟨#[110, 101, 119]⟩, ⟨#[109, 78, 110, 105, 105, 105, 110, 110, 105]⟩), (⟨#[99, 97, 110, 99, 101, 108]⟩, ⟨#[109, 78, 110]⟩), (⟨#[119, 105, 116, 104, 100, 114, 97, 119]⟩, ⟨#[109, 78, 110]⟩), (⟨#[114, 101, 112, 108, 97, 99, 101]⟩, ⟨#[109, 78, 110, 110, 105, 110, 110]⟩), (⟨#[115, 116, 111, 112]⟩, ⟨#[109, 78, 110, 105, 105, 105, 105, 110, 110]⟩), (⟨#[116, 117, 114, 110]⟩, ⟨#[78, 105]⟩), (⟨#[101, 110, 103, 105, 110, 101]⟩, ⟨#[78, 105]⟩), (⟨#[107, 105, 108, 108]⟩, ⟨#[109]⟩), (⟨#[114, 101, 118, 105, 118, 101]⟩, ⟨#[109]⟩), (⟨#[115, 101, 116, 116, 108, 101]⟩, ⟨#[]⟩), (⟨#[99, 97, 115, 104]⟩, ⟨#[109]⟩), (⟨#[109, 97, 114, 103, 105, 110]⟩, ⟨#[109]⟩), (⟨#[112, 111, 115, 105, 116, 105, 111, 110]⟩, ⟨#[109, 78]⟩), (⟨#[114, 105, 115, 107]⟩, ⟨#[109, 78]⟩), (⟨#[98, 111, 111, 107]⟩, ⟨#[78]⟩), (⟨#[98, 97, 114]⟩, ⟨#[78]⟩), (⟨#[112, 105, 99, 116, 117, 114, 101]⟩, ⟨#[78]⟩), (⟨#[112, 97, 103, 101]⟩, ⟨#[78, 105]⟩), (⟨#[100, 105, 97, 108]⟩, ⟨#[109, 67]⟩), (⟨#[108, 111, 103, 111, 110]⟩, ⟨#[109]⟩), (⟨#[108, 111, 103, 111, 102, 102]⟩, ⟨#[109]⟩), (⟨#[102, 101, 116, 99, 104]⟩, ⟨#[109]⟩), (⟨#[100, 114, 111, 112]⟩, ⟨#[109]⟩), (⟨#[116, 105, 99, 107, 115]⟩, ⟨#[109]⟩), (⟨#[109, 97, 105, 108, 110, 101, 119]⟩, ⟨#[109, 78, 110, 105, 105, 105, 110, 110, 105]⟩), (⟨#[109, 97, 105, 108, 99, 97, 110, 99, 101, 108]⟩, ⟨#[109, 78, 110]⟩), (⟨#[109, 97, 105, 108, 114, 101, 112, 108, 97, 99, 101]⟩, ⟨#[109, 78, 110, 110, 105, 110, 110]⟩), (⟨#[112, 97, 115, 115]⟩, ⟨#[109, 105]⟩), (⟨#[97, 103, 97, 105, 110]⟩, ⟨#[109, 105]⟩), (⟨#[116, 105, 99, 107]⟩, ⟨#[]⟩)]
def tblCells : Array Value := #[.string ⟨#[109, 97, 114, 107, 101, 116]⟩, .string ⟨#[105, 105, 105, 110]⟩, .string ⟨#[108, 105, 115, 116]⟩, .string ⟨#[78, 105, 105, 105, 105, 105, 105, 105, 105, 105]⟩, .string ⟨#[106, 111, 105, 110]⟩, .string ⟨#[109, 110, 110, 105, 110, 110, 110, 110]⟩, .string ⟨#[112, 97, 121]⟩, .string ⟨#[109, 110]⟩, .string ⟨#[110, 101, 119]⟩, .string ⟨#[109, 78, 110, 105, 105, 105, 110, 110, 105]⟩, .string ⟨#[99, 97, 110, 99, 101, 108]⟩, .string ⟨#[109, 78, 110]⟩, .string ⟨#[119, 105, 116, 104, 100, 114, 97, 119]⟩, .string ⟨#[109, 78, 110]⟩, .string ⟨#[114, 101, 112, 108, 97, 99, 101]⟩, .string ⟨#[109, 78, 110, 110, 105, 110, 110]⟩, .string ⟨#[115, 116, 111, 112]⟩, .string ⟨#[109, 78, 110, 105, 105, 105, 105, 110, 110]⟩, .string ⟨#[116, 117, 114, 110]⟩, .string ⟨#[78, 105]⟩, .string ⟨#[101, 110, 103, 105, 110, 101]⟩, .string ⟨#[78, 105]⟩, .string ⟨#[107, 105, 108, 108]⟩, .string ⟨#[109]⟩, .string ⟨#[114, 101, 118, 105, 118, 101]⟩, .string ⟨#[109]⟩, .string ⟨#[115, 101, 116, 116, 108, 101]⟩, .string ⟨#[]⟩, .string ⟨#[99, 97, 115, 104]⟩, .string ⟨#[109]⟩, .string ⟨#[109, 97, 114, 103, 105, 110]⟩, .string ⟨#[109]⟩, .string ⟨#[112, 111, 115, 105, 116, 105, 111, 110]⟩, .string ⟨#[109, 78]⟩, .string ⟨#[114, 105, 115, 107]⟩, .string ⟨#[109, 78]⟩, .string ⟨#[98, 111, 111, 107]⟩, .string ⟨#[78]⟩, .string ⟨#[98, 97, 114]⟩, .string ⟨#[78]⟩, .string ⟨#[112, 105, 99, 116, 117, 114, 101]⟩, .string ⟨#[78]⟩, .string ⟨#[112, 97, 103, 101]⟩, .string ⟨#[78, 105]⟩, .string ⟨#[100, 105, 97, 108]⟩, .string ⟨#[109, 67]⟩, .string ⟨#[108, 111, 103, 111, 110]⟩, .string ⟨#[109]⟩, .string ⟨#[108, 111, 103, 111, 102, 102]⟩, .string ⟨#[109]⟩, .string ⟨#[102, 101, 116, 99, 104]⟩, .string ⟨#[109]⟩, .string ⟨#[100, 114, 111, 112]⟩, .string ⟨#[109]⟩, .string ⟨#[116, 105, 99, 107, 115]⟩, .string ⟨#[109]⟩, .string ⟨#[109, 97, 105, 108, 110, 101, 119]⟩, .string ⟨#[109, 78, 110, 105, 105, 105, 110, 110, 105]⟩, .string ⟨#[109, 97, 105, 108, 99, 97, 110, 99, 101, 108]⟩, .string ⟨#[109, 78, 110]⟩, .string ⟨#[109, 97, 105, 108, 114, 101, 112, 108, 97, 99, 101]⟩, .string ⟨#[109, 78, 110, 110, 105, 110, 110]⟩, .string ⟨#[112, 97, 115, 115]⟩, .string ⟨#[109, 105]⟩, .string ⟨#[97, 103, 97, 105, 110]⟩, .string ⟨#[109, 105]⟩, .string ⟨#[116, 105, 99, 107]⟩, .string ⟨#[]⟩]
abbrev tP : Nat := 58
def look (s : ByteArray) : List (ByteArray × ByteArray) → Option ByteArray
  | [] => none
  | p :: r => if (p.1.toList == s.toList) = true then some p.2 else look s r
theorem look_at {s : ByteArray} : ∀ {l : List (ByteArray × ByteArray)} {i : Nat} {p : ByteArray × ByteArray}, l[i]? = some p → (∀ (j : Nat) (q : ByteArray × ByteArray), j < i → l[j]? = some q → (q.1.toList == s.toList) = false) → (p.1.toList == s.toList) = true → look s l = some p.2
  | [], i, p, h, _, _ => by simp at h
  | q :: l, 0, p, h, _, hp => by
    simp only [List.getElem?_cons_zero, Option.some.injEq] at h
    subst h
    simp [look, hp]
  | q :: l, i + 1, p, h, hn, hp => by
    have h0 := hn 0 q (by omega) rfl
    simp only [look, h0, Bool.false_eq_true, if_false]
    exact look_at (i := i) (by simpa using h) (fun j q hj hq => hn (j + 1) q (by omega) (by simpa using hq)) hp
theorem look_none {s : ByteArray} : ∀ {l : List (ByteArray × ByteArray)}, (∀ (j : Nat) (q : ByteArray × ByteArray), l[j]? = some q → (q.1.toList == s.toList) = false) → look s l = none
  | [], _ => rfl
  | q :: l, hn => by
    have h0 := hn 0 q rfl
    simp only [look, h0, Bool.false_eq_true, if_false]
    exact look_none (fun j q hq => hn (j + 1) q (by simpa using hq))
theorem tbl_len : tbl.length = 34 := rfl
def cellsOf (l : List (ByteArray × ByteArray)) : List Value := l.flatMap fun p => [.string p.1, .string p.2]
theorem cellsOf_at : ∀ (l : List (ByteArray × ByteArray)) (i : Nat) (p : ByteArray × ByteArray), l[i]? = some p → (cellsOf l)[i * 2]? = some (.string p.1) ∧ (cellsOf l)[i * 2 + 1]? = some (.string p.2)
  | [], i, p, h => by simp at h
  | q :: l, 0, p, h => by
    simp only [List.getElem?_cons_zero, Option.some.injEq] at h
    subst h
    exact ⟨rfl, rfl⟩
  | q :: l, i + 1, p, h => by
    have := cellsOf_at l i p (by simpa using h)
    rw [show (i + 1) * 2 = (i * 2) + 1 + 1 by omega]
    exact this
theorem tbl_flat : tblCells = (cellsOf tbl).toArray := by kernel_rfl
theorem tbl_cells : ∀ i p, tbl[i]? = some p → tblCells[i * 2]? = some (.string p.1) ∧ tblCells[i * 2 + 1]? = some (.string p.2) := by
  intro i p h
  rw [tbl_flat, List.getElem?_toArray, List.getElem?_toArray]
  exact cellsOf_at tbl i p h
set_option maxHeartbeats 1600000 in
set_option maxRecDepth 100000 in
theorem form_any (s : ByteArray) (w : World) :
    Calls Tryd.prog 17 #[.string s] w fun e w' => e = .returned (.string ((look s tbl).getD ⟨#[45]⟩)) ∧ Only Nil w w' := by
  go_enter Tryd.func17, Tryd.ntmps17
  go_upto_region 1 with fail
  go_cut [3] from 5 to 39 (fun v3 W => v3 = .slice (some ⟨w.heap.size, 0, none⟩) 34 34 ∧ Hid (W.heap[w.heap.size]? = some (.cells tblCells tP (0, 0))) ∧ Hid (Only Nil w W))
  case first =>
    go_wp2
    go_meet
    case rel => exact ⟨rfl, Lib.hid (blk_new _ _), Lib.hid ((Only.refl _ _).alloc _)⟩
  case rest =>
    obtain ⟨rfl, HB, HO⟩ := hcut
    obtain ⟨W, rfl⟩ : ∃ x : World, x = wc := ⟨_, rfl⟩
    go_wp2
    go_loopg [4] 34 (fun m v4 wr => ∃ k : Nat, k ≤ 34 ∧ m = 34 - k ∧ v4 = .int .i64 k ∧ Hid (∀ j q, j < k → tbl[j]? = some q → (q.1.toList == s.toList) = false) ∧ wr = W)
    case atStart => exact ⟨0, by omega, by omega, rfl, Lib.hid (fun j q hj => by omega), rfl⟩
    case round =>
      obtain ⟨k, hk, hm, rfl, HN, rfl⟩ := hrel
      by_cases hlt : k < 34
      · have hkI : (k : Int) < 34 := by omega
        have hx : tbl[k]? = some (tbl[k]'(by rw [tbl_len]; exact hlt)) := List.getElem?_eq_getElem _
        obtain ⟨e1, e2⟩ := tbl_cells k _ hx
        have c1 := blk_cell HB.out (k * 2)
        have c2 := blk_cell HB.out (k * 2 + 1)
        rw [e1] at c1
        rw [e2] at c2
        have lB := blk_lt HB.out
        have HX := Lib.hid hx
        generalize (tbl[k]'(by rw [tbl_len]; exact hlt)) = q at *
        obtain ⟨q1, q2⟩ := q
        simp only at c1 c2
        clear hx e1 e2
        by_cases he : (q1.toList == s.toList) = true
        · have HL := Lib.hid (look_at HX.out HN.out he)
          go_wp2
          go_ret
          exact ⟨by rw [HL.out]; rfl, HO.out⟩
        · have he' : (q1.toList == s.toList) = false := by simpa using he
          have HN1 : Hid (∀ j q, j < k + 1 → tbl[j]? = some q → (q.1.toList == s.toList) = false) := Lib.hid (fun j q hj hq => by
            by_cases hjk : j = k
            · subst hjk; rw [HX.out] at hq; injection hq with hq; subst hq; exact he'
            · exact HN.out j q (by omega) hq)
          clear he HN
          go_wp2
          go_roundg (34 - (k + 1))
          case measure => omega
          case rel => exact ⟨k + 1, by omega, rfl, by go_num, HN1, rfl⟩
      · have hk34 : k = 34 := by omega
        subst hk34
        have HL : Hid (look s tbl = none) := Lib.hid (look_none (fun j q hq => HN.out j q (by have := (List.getElem?_eq_some_iff.1 hq).1; rw [tbl_len] at this; exact this) hq))
        clear HN hlt hk
        go_wp2
        go_ret
        exact ⟨by rw [HL.out]; rfl, HO.out⟩
end Pa
end Go.Proofs.YtnhedhmffgaohaaDoor
