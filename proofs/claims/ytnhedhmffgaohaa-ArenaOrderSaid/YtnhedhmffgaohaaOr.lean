/- The walk of ArenaOrder: a queue in which nodes are made dead, taken out, popped and swept, and pushed again. -/
import Derived.Test.YtnhedhmffgaohaaOrF
import Derived.Deep.CutRange
import Derived.Deep.CutBlock
import Derived.Deep.LoopGhost
import Derived.Deep.RegionLaw
namespace Go.Proofs.Ytnhedhmffgaohaa
open Go.RowKit
namespace Or
open ArI

/-- A step, as it came in. -/
structure Opv where
  kind : Int
  queue : Int
  which : Int
  value : Int
  raw : Bool
  ix : Nat
  life : Nat
def Opv.cells (o : Opv) : List Value := [.int .i64 o.kind, .int .i64 o.queue, .int .i64 o.which, .int .i64 o.value, .bool o.raw, .int .u32 o.ix, .int .u32 o.life]
structure Opv.ok (o : Opv) : Prop where
  kind : -9223372036854775808 ≤ o.kind ∧ o.kind ≤ 9223372036854775807
  queue : -9223372036854775808 ≤ o.queue ∧ o.queue ≤ 9223372036854775807
  which : -9223372036854775808 ≤ o.which ∧ o.which ≤ 9223372036854775807
  value : -9223372036854775808 ≤ o.value ∧ o.value ≤ 9223372036854775807
  ix : o.ix < 4294967296
  life : o.life < 4294967296
/-- What a walk is told of steps that came in. -/
def IsOps (w : World) (a : Option Addr) (n : Nat) : Prop := n ≤ 9223372036854775807 ∧ ∀ k, k < n → ∃ (b off : Nat) (o : Opv), a = some ⟨b, off, none⟩ ∧ b < w.heap.size ∧ o.ok ∧ ∀ (j : Nat) (u : Value), o.cells[j]? = some u → w.cell? ⟨b, off + k * 7 + j, none⟩ = some u

/-- Between two steps. -/
structure OrdI (w wr : World) (v6 : Value) (s : Ar) (vn vf : Value) (q : Qu) (L : List Nat) (loose : Nat) : Prop where
  full : Full w.heap.size wr w.heap.size 0 s vn vf q L
  blk : q.blk = w.heap.size + 1
  want : HAt wr w.heap.size v6 (wnt s.nodes L)
  room : s.room = 12
  sum : s.nodes.length = s.free.length + L.length + loose
  only : Only Nil w wr
theorem OrdI.step {w wr w1 : World} {v6 : Value} {s : Ar} {vn vf : Value} {q : Qu} {L : List Nat} {loose : Nat} (h : OrdI w wr v6 s vn vf q L loose) (ho : Only Nil wr w1) : OrdI w w1 v6 s vn vf q L loose :=
  ⟨h.full.only ho, h.blk, RowAt.nil h.want ho, h.room, h.sum, h.only.trans ho (fun _ _ h => h)⟩
theorem OrdI.num {w wr : World} {v6 : Value} {s : Ar} {vn vf : Value} {q : Qu} {L : List Nat} {loose : Nat} (h : OrdI w wr v6 s vn vf q L loose) :
    ((wnt s.nodes L).length : Int) = q.live ∧ ((wnt s.nodes L).length : Int) + q.dead = (L.length : Int) ∧ 0 ≤ q.dead ∧ L.length + loose ≤ 12 ∧ (wnt s.nodes L).length ≤ 12 ∧ q.dead ≤ 12 ∧ loose ≤ 12 := by
  have h1 := wnt_len h.full.st.ok
  have h2 := h.full.st.lo'
  have h3 := h.full.st.wf.len
  have h4 := h.room
  have h5 := h.sum
  omega

theorem own_ne_H {B : Nat} {w : World} : ∀ b, Own B w b → ∃ t, Ty w b t ∧ t ≠ tH := fun b hb => by
  obtain ⟨_, t, ht, h⟩ := hb
  exact ⟨t, ht, by rcases h with h | h | h | h <;> (subst h; decide)⟩
theorem own_only {w wr w1 : World} (h : Only Nil w wr) (ho : Only (Own w.heap.size wr) wr w1) : Only Nil w w1 := h.trans ho (fun b hb h => by have := h.1; omega)
theorem nil_or {α : Type} (l : List α) : l = [] ∨ ∃ x r, l = x :: r := by cases l <;> simp
theorem full_apart {B : Nat} {S : Nat → Prop} {w w1 : World} {A j : Nat} {s : Ar} {vn vf : Value} {q : Qu} {L : List Nat} (h : Full B w A j s vn vf q L) (ho : Only S w w1) (hs : ∀ b, S b → Ty w b tH) : Full B w1 A j s vn vf q L :=
  ⟨⟨h.st.rep.apart ho (fun b hb => ⟨tH, hs b hb, by decide, by decide, by decide, by decide⟩), h.st.wf, h.st.nodup, h.st.hq, h.st.ok, h.st.lo⟩, h.fr, h.vals, h.ha, h.hb, h.hn, h.hf⟩
theorem kinds {k : Int} (h : k = 4 ∨ k = 0) : ((k == 4) = false ∧ (k == 0) = true) ∨ (k == 4) = true := by
  rcases h with rfl | rfl
  · exact .inr rfl
  · exact .inl ⟨rfl, rfl⟩
def q0 (b : Nat) : Qu := ⟨b, -1, -1, 0, 0⟩
def W0 (w : World) : World := ((w.alloc (.cells #[.int .i64 12, .slice none 0 0, .slice none 0 0] tA)).alloc (.cells #[.pointer (some ⟨w.heap.size, 0, none⟩), .int .i64 (-1), .int .i64 (-1), .int .i64 0, .int .i64 0] tQ)).alloc (.cells #[] 32)
theorem ord0 (w : World) : OrdI w (W0 w) (.slice (some ⟨w.heap.size + 1 + 1, 0, none⟩) 0 0) ⟨12, [], [], [q0 (w.heap.size + 1)]⟩ (.slice none 0 0) (.slice none 0 0) (q0 (w.heap.size + 1)) [] 0 := by
  have hr : ArRep (W0 w) w.heap.size ⟨12, [], [], [q0 (w.heap.size + 1)]⟩ (.slice none 0 0) (.slice none 0 0) := by
    refine ⟨blk_alloc (blk_alloc (blk_new w _) _) _, own_nil _ _ _ _, own_nil _ _ _ _, fun q hq => ?_⟩
    simp at hq
    subst hq
    exact blk_alloc (blk_new' _ _ _ (by simp [q0])) _
  have hok : QOk [] (q0 (w.heap.size + 1)) [] := ⟨trivial, rfl, rfl, by simp, fun i d hd => by simp at hd, rfl, rfl⟩
  refine ⟨⟨⟨hr, ⟨by show 12 ≤ 65536; omega, by simp, by simp, by simp, by simp, by simp, by simp⟩, by simp, rfl, hok, by simp⟩, fun k hk => by simp at hk, fun d hd => by simp at hd, Nat.le_refl _, by show w.heap.size ≤ w.heap.size + 1; omega, fun b hb => by simp [Value.ownBlock] at hb, fun b hb => by simp [Value.ownBlock] at hb⟩, rfl, ?_, rfl, rfl, (((Only.refl _ w).alloc _).alloc _).alloc _⟩
  exact ⟨rfl, .inl ⟨_, rfl, rfl⟩⟩

set_option maxHeartbeats 16000000 in
set_option maxRecDepth 100000 in
theorem walk_ok (a1 : Option Addr) (n cap1 : Nat) (w : World) (hz : IsOps w a1 n) :
    Calls Try.prog 5 #[.slice a1 n cap1] w fun e w' => e = .returned (.bool true) ∧ Below w.heap.size w w' := by
  have hn : Calls Try.prog 10 #[.int .i64 12] w fun e w' => e = .returned (.tuple #[.pointer (some ⟨w.heap.size, 0, none⟩), .int .i64 0]) ∧ w' = w.alloc (.cells #[.int .i64 12, .slice none 0 0, .slice none 0 0] tA) := ArI.new_ok 12 w (by omega) (by omega)
  have HN := Lib.hid hn
  clear hn
  obtain ⟨i0, hi0, hz0, hz1, hz2⟩ := info_parts infoH
  have hn63 := hz.1
  have HZ := Lib.hid hz
  clear hz
  go_enter Try.func5, Try.ntmps5
  go_wp2_with fail
  refine HN.out.mono ?_
  rintro e w1 ⟨rfl, rfl⟩
  go_wp2_with fail
  refine (newQueue_any _ _).mono ?_
  rintro e w1 ⟨rfl, rfl⟩
  simp only [World.size_alloc]
  go_wp2
  have ho0 := Lib.hid (ord0 w)
  unfold W0 at ho0
  go_loopg [6, 7, 8, 9] n (fun g v6 v7 v8 v9 wr => ∃ (k : Nat) (s : Ar) (vn vf : Value) (q : Qu) (L : List Nat) (loose : Nat), k ≤ n ∧ g = n - k ∧ v9 = .int .i64 k ∧ v7 = .int .i64 q.dead ∧ v8 = .int .i64 loose ∧ Hid (OrdI w wr v6 s vn vf q L loose))
  case atStart => exact ⟨0, _, _, _, _, _, 0, by omega, by omega, rfl, rfl, rfl, ho0⟩
  case round =>
    obtain ⟨k, s, vn, vf, q, L, loose, hk, hg, rfl, rfl, rfl, HO⟩ := hrel
    clear ho0 HN
    by_cases hlt : k < n
    · have hqb := HO.out.blk
      obtain ⟨b, off, o, rfl, hb, hok, hcell⟩ := HZ.out.2 k hlt
      have hon := HO.out.only
      have c0 := (hon.cell (p := ⟨b, off + k * 7, none⟩) hb (fun h => h)).trans (hcell 0 _ rfl)
      have c1 := (hon.cell (p := ⟨b, off + k * 7 + 1, none⟩) hb (fun h => h)).trans (hcell 1 _ rfl)
      have c2 := (hon.cell (p := ⟨b, off + k * 7 + 2, none⟩) hb (fun h => h)).trans (hcell 2 _ rfl)
      have c3 := (hon.cell (p := ⟨b, off + k * 7 + 3, none⟩) hb (fun h => h)).trans (hcell 3 _ rfl)
      have c4 := (hon.cell (p := ⟨b, off + k * 7 + 4, none⟩) hb (fun h => h)).trans (hcell 4 _ rfl)
      have c5 := (hon.cell (p := ⟨b, off + k * 7 + 5, none⟩) hb (fun h => h)).trans (hcell 5 _ rfl)
      have c6 := (hon.cell (p := ⟨b, off + k * 7 + 6, none⟩) hb (fun h => h)).trans (hcell 6 _ rfl)
      have hbw : b < wr.heap.size := Nat.lt_of_lt_of_le hb hon.size
      have hwk := hok.which
      clear hcell hon
      obtain ⟨A6, cap6, rfl, hc6⟩ := RowAt.slice HO.out.want
      have hnum := HO.out.num
      have Hnum := Lib.hid hnum
      have hm12 : (wnt s.nodes L).length ≤ 12 := hnum.2.2.2.2.1
      clear hnum
      go_upto_if 45 with fail
      go_cut [] from 32 to 192 (fun wc => ∃ pi pl : Nat, Hid (wc.heap[wr.heap.size]? = some (.cells #[.int .i64 o.kind, .int .i64 o.queue, .int .i64 o.which, .int .i64 o.value, .bool o.raw, .int .u32 o.ix, .int .u32 o.life] 46 (0, 0))) ∧ Hid (wc.heap[wr.heap.size + 1]? = some (.cells #[.int .u32 pi, .int .u32 pl] tH (0, 0))) ∧
        Hid (wnt s.nodes L = [] ∨ ⟨pi, pl⟩ ∈ wnt s.nodes L) ∧ Hid (Only Nil wr wc))
      case first =>
        clear HZ hok c0 c1 c3 c4 c5 c6
        have hon2 : Only Nil wr ((wr.alloc (.cells #[.int .i64 o.kind, .int .i64 o.queue, .int .i64 o.which, .int .i64 o.value, .bool o.raw, .int .u32 o.ix, .int .u32 o.life] 46)).alloc (.cells #[.int .u32 0, .int .u32 0] tH)) := ((Only.refl _ wr).alloc _).alloc _
        by_cases hw0 : (wnt s.nodes L).length = 0
        · as_aux_lemma =>
          have Hw0 := Lib.hid hw0
          have hle : ¬ (0 : Int) < ((wnt s.nodes L).length : Int) := by omega
          have hle' : ¬ 0 < (wnt s.nodes L).length := by omega
          clear hw0
          go_wp2
          go_meet
          case rel => exact ⟨0, 0, blk_alloc (blk_new wr _) _, blk_new' _ _ _ (by simp), .inl (List.eq_nil_of_length_eq_zero Hw0.out), hon2⟩
        · as_aux_lemma =>
          have hW := Lib.hid HO.out.want
          obtain ⟨g6, o6, c6', e6, _, hg6, _, hcs6, _⟩ := RowAt.row hW.out (by omega)
          injection e6 with e6 _ e6'
          subst e6
          subst e6'
          have hpos : (0 : Int) < ((wnt s.nodes L).length : Int) := by omega
          have ht1 := Int.tmod_lt_of_pos o.which hpos
          have ht2 := Int.lt_tmod_of_pos o.which hpos
          have hmn : ∀ j : Nat, (hj : j < (wnt s.nodes L).length) → ∃ pi pl : Nat, wr.cell? ⟨g6, o6 + j * 2, none⟩ = some (.int .u32 pi) ∧ wr.cell? ⟨g6, o6 + j * 2 + 1, none⟩ = some (.int .u32 pl) ∧ ⟨pi, pl⟩ ∈ wnt s.nodes L := fun j hj => by
            obtain ⟨k1, k2⟩ := hd_cells hcs6 (List.getElem?_eq_getElem hj)
            exact ⟨_, _, k1, k2, List.getElem_mem hj⟩
          have hne : ((wnt s.nodes L).length : Int) ≠ 0 := by omega
          generalize hm : (wnt s.nodes L).length = m at *
          generalize ht : Int.tmod o.which (m : Int) = t at *
          have Hm := Lib.hid hm
          clear hcs6 hm
          by_cases hneg : t < 0
          · obtain ⟨pi, pl, k1, k2, k3⟩ := hmn (t + m).toNat (by omega)
            have K3 := Lib.hid k3
            clear hmn k3
            go_wp2
            go_meet
            case rel => exact ⟨pi, pl, blk_alloc (blk_new wr _) _, blk_new' _ _ _ (by simp), .inr K3.out, ((Only.refl _ wr).alloc _).alloc _⟩
          · obtain ⟨pi, pl, k1, k2, k3⟩ := hmn t.toNat (by omega)
            have K3 := Lib.hid k3
            clear hmn k3
            go_wp2
            go_meet
            case rel => exact ⟨pi, pl, blk_alloc (blk_new wr _) _, blk_new' _ _ _ (by simp), .inr K3.out, ((Only.refl _ wr).alloc _).alloc _⟩
      case rest =>
        obtain ⟨pi, pl, H46, Hpk, Hpw, Hoc⟩ := hcut
        have HC := Lib.hid (HO.out.step Hoc.out)
        have hK0 := blk_cell H46.out 0
        have hK3 := blk_cell H46.out 3
        have hP0 := blk_cell Hpk.out 0
        have hP1 := blk_cell Hpk.out 1
        have hb1 := blk_lt H46.out
        have hb2 := blk_lt Hpk.out
        simp only [List.getElem?_toArray, List.getElem?_cons_zero, List.getElem?_cons_succ] at hK0 hK3 hP0 hP1
        have hwc : wr.heap.size ≤ wc.heap.size := Hoc.out.size
        clear HO c0 c1 c2 c3 c4 c5 c6 hbw HZ hb
        have hd0 : 0 ≤ q.dead := Hnum.out.2.2.1
        have hd12 : q.dead ≤ 12 := Hnum.out.2.2.2.2.2.1
        have hl12 : loose ≤ 12 := Hnum.out.2.2.2.2.2.2
        go_upto_region 18 with fail
        go_cut [62] from 32 to 192 (fun v62 w2 => v62 = .int .i64 o.kind ∧ w2 = wc)
        case first =>
          go_wp2
          go_meet
          case rel => exact ⟨rfl, rfl⟩
        obtain ⟨rfl, rfl⟩ := hcut
        go_step
        go_cut [6, 7, 8] from 32 to 192 (fun v6 v7 v8 wd => ∃ (s : Ar) (vn vf : Value) (q : Qu) (L : List Nat) (loose : Nat), v7 = .int .i64 q.dead ∧ v8 = .int .i64 loose ∧ Hid (OrdI w wd v6 s vn vf q L loose))
        case first =>
          by_cases hT : o.kind = 4 ∨ o.kind = 0
          · by_cases hfull : s.nodes.length - s.free.length = s.room
            · have HT := Lib.hid (HC.out.full.take_full hfull o.value)
              have h12 : ¬ (((wnt s.nodes L).length : Int) + q.dead + (loose : Int) < 12) := by
                have h1 := HC.out.sum
                have h2 := HC.out.room
                have h3 := Hnum.out.2.1
                omega
              rcases kinds hT with ⟨hk4, hk0⟩ | hk4
              all_goals as_aux_lemma =>
                clear hT hfull
                go_wp2_with fail
                refine HT.out.mono ?_
                rintro e w1 ⟨rfl, ho⟩
                have HC1 := Lib.hid (HC.out.step ho)
                go_wp2
                go_roundg (n - (k + 1))
                case measure => omega
                case rel => exact ⟨k + 1, s, vn, vf, q, L, loose, by omega, rfl, by go_num, rfl, rfl, HC1.out.step ((Only.refl _ _).alloc _)⟩
            · have HT := Lib.hid (HC.out.full.take_ok (by have h1 := HC.out.full.st.wf.len; omega) o.value)
              have h12 : (((wnt s.nodes L).length : Int) + q.dead + (loose : Int) < 12) := by
                have h1 := HC.out.sum
                have h2 := HC.out.room
                have h3 := Hnum.out.2.1
                have h4 := HC.out.full.st.wf.len
                omega
              rcases kinds hT with ⟨hk4, hk0⟩ | hk4
              all_goals as_aux_lemma =>
                clear hT hfull
                go_wp2_with fail
                refine HT.out.mono ?_
                rintro e w1 ⟨i, l, s1, vn1, vf1, d1, rfl, hF1, hd1, ht1, hq1, hl1, hroom1, hsum1, hwn1, ho1⟩
                subst hl1
                have hPu := fun W (ho : Only Nil w1 W) => (hF1.only ho).push hd1 ht1 hq1
                rw [hqb] at hPu
                have HPu := Lib.hid hPu
                have Hn1 := Lib.hid (And.intro hroom1 (And.intro hsum1 hwn1))
                have hlt1 := hF1.lt
                have HW1 := Lib.hid (HC.out.want.apart ho1 own_ne_H)
                have HO1 := Lib.hid (own_only HC.out.only ho1)
                clear hF1 hd1 ht1 hq1 hroom1 hsum1 hwn1 ho1 hPu
                go_wp2_with fail
                refine (HPu.out _ ((Only.refl _ _).alloc _)).mono ?_
                rintro e w2 ⟨rfl, s2, hF2, hroom2, hfree2, hnl2, hwn2, ho2⟩
                have hbx := blk_apart (blk_new w1 _) ho2 own_ne_H
                have hQ0 := blk_cell hbx 0
                have hQ1 := blk_cell hbx 1
                have hqlt := blk_lt hbx
                simp only [List.getElem?_toArray, List.getElem?_cons_zero, List.getElem?_cons_succ] at hQ0 hQ1
                have hrow := RowAt.apart (RowAt.nil HW1.out ((Only.refl _ _).alloc (.cells #[.int .u32 i, .int .u32 d1.life] tH))) ho2 own_ne_H
                have HF2 := Lib.hid hF2
                have Hn2 := Lib.hid (And.intro hroom2 (And.intro hfree2 (And.intro hnl2 hwn2)))
                have HO2 := Lib.hid (own_only (HO1.out.trans ((Only.refl _ _).alloc (.cells #[.int .u32 i, .int .u32 d1.life] tH)) (fun _ _ h => h)) ho2)
                have hlt2 := hF2.lt
                clear hbx hF2 hroom2 hfree2 hnl2 hwn2 ho2
                go_wp2_with (at_builtin; (refine wpList_append_rw _ rfl (.tmp 89) (.tmp 91) _ rfl w.heap.size 32 i0 _ 2 8 Try.underlying27 hi0 hz0 hz1 hz2 rfl (by omega) (.slice A6 (wnt s.nodes L).length cap6) (wnt s.nodes L).length _ rfl (RowAt.nil hrow ((Only.refl _ _).alloc _)) ⟨w2.heap.size, 0, none⟩ 1 1 (Hd.cells ⟨i, d1.life⟩) rfl rfl (World.news_of_block (blk_new' _ _ _ (by simp))) (by simp [Hd.cells, Value.oneCell']) (by omega) (bytesH _ (by omega)).1 (bytesH _ (by omega)).2 (by simp; omega) ?_); intro v' w3 hrow3 ho3)
                go_meet
                case rel =>
                  refine ⟨s2, vn1, vf1, pushQ q i, L ++ [i], loose, rfl, rfl, Lib.hid ⟨?_, hqb, ?_, ?_, ?_, ?_⟩⟩
                  · exact full_apart (HF2.out.only ((Only.refl _ _).alloc _)) ho3 (fun b hb => hb.2)
                  · have e : wnt s2.nodes (L ++ [i]) = wnt s.nodes L ++ [⟨i, d1.life⟩] := by rw [Hn2.out.2.2.2, Hn1.out.2.2]
                    unfold HAt
                    rw [e]
                    simpa using hrow3
                  · rw [Hn2.out.1, Hn1.out.1]; exact HC.out.room
                  · have h1 := HC.out.sum
                    have h2 := Hn1.out.2.1
                    rw [Hn2.out.2.2.1, Hn2.out.2.1, List.length_append]
                    simp only [List.length_cons, List.length_nil]
                    omega
                  · exact (HO2.out.trans ((Only.refl Nil _).alloc _) (fun _ _ h => h)).trans ho3 (fun b hb h => by have := h.1; omega)
          · have hT4 : (o.kind == 4) = false := beq_eq_false_iff_ne.2 (fun h => hT (.inl h))
            have hT0 : (o.kind == 0) = false := beq_eq_false_iff_ne.2 (fun h => hT (.inr h))
            clear hT
            by_cases h7 : o.kind = 7
            · as_aux_lemma =>
              have hT7 : (o.kind == 7) = true := by rw [h7]; rfl
              clear h7
              by_cases hw : wnt s.nodes L = []
              · have hl0 : (((wnt s.nodes L).length : Int) == 0) = true := by rw [hw]; rfl
                clear hw
                go_wp2
                go_roundg (n - (k + 1))
                case measure => omega
                case rel => exact ⟨k + 1, s, vn, vf, q, L, loose, by omega, rfl, by go_num, rfl, rfl, HC⟩
              · have hl0 : (((wnt s.nodes L).length : Int) == 0) = false := beq_eq_false_iff_ne.2 (fun h => hw (List.eq_nil_of_length_eq_zero (by omega)))
                obtain ⟨hmL, d, hd1, hdd, hdl⟩ := wnt_mem (Hpw.out.resolve_left hw)
                simp only at hmL hd1 hdl
                obtain ⟨L1, L2, rfl⟩ := List.append_of_mem hmL
                have hM := HC.out.full.mark hd1 hdd
                rw [hqb, hdl] at hM
                have HM := Lib.hid hM
                have Hd := Lib.hid (And.intro hd1 (And.intro hdd hdl))
                clear hw hmL hd1 hdd hdl hM
                go_wp2_with fail
                refine HM.out.mono ?_
                rintro e w1 ⟨rfl, s', hF, hroom, hfree, hnl, hwn, ho⟩
                have hbx := blk_apart Hpk.out ho own_ne_H
                have hQ0 := blk_cell hbx 0
                have hQ1 := blk_cell hbx 1
                have hqlt := blk_lt hbx
                simp only [List.getElem?_toArray, List.getElem?_cons_zero, List.getElem?_cons_succ] at hQ0 hQ1
                have HWn := Lib.hid (without_at w.heap.size _ _ pi pl w1 (HC.out.want.apart ho own_ne_H) (by omega))
                have HF := Lib.hid hF
                have Hn := Lib.hid (And.intro hroom (And.intro hfree (And.intro hnl hwn)))
                have HO1 := Lib.hid (own_only HC.out.only ho)
                clear hbx hF hroom hfree hnl hwn ho
                go_wp2_with fail
                refine HWn.out.mono ?_
                rintro e w2 ⟨r, rfl, hrow, hfresh, ho2⟩
                have HC2 : Hid (OrdI w w2 r s' vn vf (markQ q) (L1 ++ pi :: L2) loose) := Lib.hid ⟨HF.out.only ho2, hqb, HAt.of_row (by rw [Hn.out.2.2.2]; exact hrow) (fun b hb => Nat.le_trans HO1.out.size (hfresh b hb)), by rw [Hn.out.1]; exact HC.out.room, by have h1 := HC.out.sum; have h2 := Hn.out.2.1; have h3 := Hn.out.2.2.1; rw [h2]; omega, HO1.out.trans ho2 (fun _ _ h => h)⟩
                clear hrow hfresh ho2
                go_wp2
                go_meet
                case rel => exact ⟨s', vn, vf, _, _, loose, rfl, rfl, HC2⟩
            · have hT7 : (o.kind == 7) = false := beq_eq_false_iff_ne.2 h7
              clear h7
              by_cases h6 : o.kind = 6
              · as_aux_lemma =>
                have hT6 : (o.kind == 6) = true := by rw [h6]; rfl
                clear h6
                by_cases hw : wnt s.nodes L = []
                · have hl0 : (((wnt s.nodes L).length : Int) == 0) = true := by rw [hw]; rfl
                  clear hw
                  go_wp2
                  go_roundg (n - (k + 1))
                  case measure => omega
                  case rel => exact ⟨k + 1, s, vn, vf, q, L, loose, by omega, rfl, by go_num, rfl, rfl, HC⟩
                · have hl0 : (((wnt s.nodes L).length : Int) == 0) = false := beq_eq_false_iff_ne.2 (fun h => hw (List.eq_nil_of_length_eq_zero (by omega)))
                  obtain ⟨hmL, d, hd1, hdd, hdl⟩ := wnt_mem (Hpw.out.resolve_left hw)
                  simp only at hmL hd1 hdl
                  obtain ⟨L1, L2, rfl⟩ := List.append_of_mem hmL
                  have hM := HC.out.full.remove hd1 hdd
                  rw [hqb, hdl] at hM
                  have HM := Lib.hid hM
                  have Hd := Lib.hid (And.intro hd1 (And.intro hdd hdl))
                  clear hw hmL hd1 hdd hdl hM
                  go_wp2_with fail
                  refine HM.out.mono ?_
                  rintro e w1 ⟨rfl, s', hF, hroom, hfree, hnl, hwn, ho⟩
                  have hbx := blk_apart Hpk.out ho own_ne_H
                  have hQ0 := blk_cell hbx 0
                  have hQ1 := blk_cell hbx 1
                  have hqlt := blk_lt hbx
                  simp only [List.getElem?_toArray, List.getElem?_cons_zero, List.getElem?_cons_succ] at hQ0 hQ1
                  have HWn := Lib.hid (without_at w.heap.size _ _ pi pl w1 (HC.out.want.apart ho own_ne_H) (by omega))
                  have HF := Lib.hid hF
                  have Hn := Lib.hid (And.intro hroom (And.intro hfree (And.intro hnl hwn)))
                  have HO1 := Lib.hid (own_only HC.out.only ho)
                  clear hbx hF hroom hfree hnl hwn ho
                  go_wp2_with fail
                  refine HWn.out.mono ?_
                  rintro e w2 ⟨r, rfl, hrow, hfresh, ho2⟩
                  have HC2 : Hid (OrdI w w2 r s' vn vf (outQ q d) (L1 ++ L2) (loose + 1)) := Lib.hid ⟨HF.out.only ho2, hqb, HAt.of_row (by rw [Hn.out.2.2.2]; exact hrow) (fun b hb => Nat.le_trans HO1.out.size (hfresh b hb)), by rw [Hn.out.1]; exact HC.out.room, by have h1 := HC.out.sum; have h2 := Hn.out.2.1; have h3 := Hn.out.2.2.1; rw [h2]; simp only [List.length_append, List.length_cons] at h1 ⊢; omega, HO1.out.trans ho2 (fun _ _ h => h)⟩
                  clear hrow hfresh ho2
                  go_wp2
                  go_meet
                  case rel => exact ⟨s', vn, vf, _, _, (loose + 1), by show Value.int .i64 q.dead = .int .i64 (if d.dead = true then q.dead - 1 else q.dead); rw [Hd.out.2.1]; rfl, by go_num, HC2⟩
              · have hT6 : (o.kind == 6) = false := beq_eq_false_iff_ne.2 h6
                clear h6
                by_cases h8 : o.kind = 8
                · have hT8 : (o.kind == 8) = true := by rw [h8]; rfl
                  clear h8
                  rcases nil_or (wnt s.nodes L) with hw | ⟨x, r, hw⟩
                  · as_aux_lemma =>
                    have hP := HC.out.full.pop_no hw
                    rw [hqb] at hP
                    have HP := Lib.hid hP
                    have hle : ¬ (0 : Int) < ((wnt s.nodes L).length : Int) := by rw [hw]; simp
                    have hle' : ¬ 0 < (wnt s.nodes L).length := by rw [hw]; simp
                    clear hw hP
                    go_wp2_with fail
                    refine HP.out.mono ?_
                    rintro e w1 ⟨rfl, ho⟩
                    have HC1 := Lib.hid (HC.out.step ho)
                    clear ho
                    go_wp2
                    go_quiet (fail)
                    go_wp2
                    go_meet
                    case rel => exact ⟨s, vn, vf, q, L, loose, rfl, rfl, HC1.out.step (((Only.refl _ _).alloc _).drewN _)⟩
                  · as_aux_lemma =>
                    have hP := HC.out.full.pop_yes hw
                    rw [hqb] at hP
                    have HP := Lib.hid hP
                    have hposN : 0 < (wnt s.nodes L).length := by rw [hw]; simp
                    have hposI : (0 : Int) < ((wnt s.nodes L).length : Int) := by omega
                    have hpos1 : 1 ≤ (wnt s.nodes L).length := hposN
                    have Hw := Lib.hid hw
                    clear hw hP
                    go_wp2_with fail
                    refine HP.out.mono ?_
                    rintro e w1 ⟨rfl, s', vf', q', L', hF, hb', hroom, hfree, hnl, hwn, ho⟩
                    have hwant1 := HC.out.want.apart ho own_ne_H
                    obtain ⟨g6, o6, c6', e6, _, hg6, _, hcs6, _⟩ := RowAt.row hwant1 (by omega)
                    injection e6 with e6 _ e6'
                    subst e6
                    subst e6'
                    obtain ⟨hx0, hx1⟩ := hd_cells hcs6 (i := 0) (x := x) (by rw [Hw.out]; rfl)
                    simp only [Nat.zero_mul, Nat.add_zero] at hx0 hx1
                    have htail := RowAt.tail hwant1 hposN
                    have hT : HAt w1 w.heap.size (.slice (if cap6 = 1 then some ⟨g6, o6, none⟩ else some ⟨g6, o6 + 2, none⟩) ((wnt s.nodes L).length - 1) (cap6 - 1)) r := by
                      have e1 : r.length = (wnt s.nodes L).length - 1 := by rw [Hw.out]; simp
                      have e2 : ((wnt s.nodes L).flatMap Hd.cells).drop 2 = r.flatMap Hd.cells := by rw [Hw.out, List.flatMap_cons]; rfl
                      unfold HAt
                      rw [e1, ← e2]
                      exact htail
                    have hD := fun W (ho : Only Nil w1 W) => dead_any w.heap.size 0 s' vn vf' q' L' W (hF.only ho).st
                    rw [hb'] at hD
                    have HD := Lib.hid hD
                    have HF := Lib.hid hF
                    have HTl := Lib.hid hT
                    have Hn := Lib.hid (And.intro hb' (And.intro hroom (And.intro hfree (And.intro hnl hwn))))
                    have HO1 := Lib.hid (own_only HC.out.only ho)
                    clear hF hb' hroom hfree hnl hwn ho hwant1 hcs6 htail hT hD
                    have HFin : ∀ W (hw' : Only Nil w1 W), OrdI w W (.slice (if cap6 = 1 then some ⟨g6, o6, none⟩ else some ⟨g6, o6 + 2, none⟩) ((wnt s.nodes L).length - 1) (cap6 - 1)) s' vn vf' q' L' (loose + 1) := fun W hw' =>
                      ⟨HF.out.only hw', Hn.out.1, by rw [Hn.out.2.2.2.2]; exact RowAt.nil HTl.out hw', by rw [Hn.out.2.1]; exact HC.out.room, by have h1 := HC.out.sum; have h2 := Hn.out.2.2.1; have h3 := Hn.out.2.2.2.1; omega, HO1.out.trans hw' (fun _ _ h => h)⟩
                    have HFi := Lib.hid HFin
                    clear HFin
                    go_wp2
                    go_quiet (fail)
                    by_cases hc1 : cap6 = 1
                    · subst hc1
                      have hwl1 : (wnt s.nodes L).length - 1 = 0 := by omega
                      simp only [if_true, hwl1, Nat.sub_self] at HFi
                      clear hwl1
                      go_wp2_with fail
                      refine (HD.out _ (((Only.refl _ _).alloc _).drewN _)).mono ?_
                      rintro e w2 ⟨rfl, rfl⟩
                      go_wp2
                      go_meet
                      case rel => exact ⟨s', vn, vf', q', L', loose + 1, rfl, by go_num, HFi.out _ (((Only.refl _ _).alloc _).drewN _)⟩
                    · simp only [if_neg hc1] at HFi
                      go_wp2_with fail
                      refine (HD.out _ (((Only.refl _ _).alloc _).drewN _)).mono ?_
                      rintro e w2 ⟨rfl, rfl⟩
                      go_wp2
                      go_meet
                      case rel => exact ⟨s', vn, vf', q', L', loose + 1, rfl, by go_num, HFi.out _ (((Only.refl _ _).alloc _).drewN _)⟩
                · have hT8 : (o.kind == 8) = false := beq_eq_false_iff_ne.2 h8
                  clear h8
                  by_cases h9 : o.kind = 9
                  · as_aux_lemma =>
                    have hT9 : (o.kind == 9) = true := by rw [h9]; rfl
                    have HS := Lib.hid (HC.out.full.sweep)
                    rw [hqb] at HS
                    clear h9
                    go_wp2_with fail
                    refine HS.out.mono ?_
                    rintro e w1 ⟨rfl, s', vf', q', L', hF, hb', hd', hroom, hfree, hLl, hnl, hwn, ho⟩
                    have HC1 : Hid (OrdI w w1 (.slice A6 (wnt s.nodes L).length cap6) s' vn vf' q' L' loose) := Lib.hid ⟨hF, hb', by rw [hwn]; exact HC.out.want.apart ho own_ne_H, by rw [hroom]; exact HC.out.room, by have := HC.out.sum; omega, HC.out.only.trans ho (fun b hb h => by have := h.1; omega)⟩
                    have Hd' := Lib.hid hd'
                    clear hF hb' hd' hroom hfree hLl hnl hwn ho
                    go_wp2
                    go_meet
                    case rel => exact ⟨s', vn, vf', q', L', loose, by rw [Hd'.out], rfl, HC1⟩
                  · as_aux_lemma =>
                    have hT9 : (o.kind == 9) = false := beq_eq_false_iff_ne.2 h9
                    clear h9
                    go_wp2
                    go_meet
                    case rel => exact ⟨s, vn, vf, q, L, loose, rfl, rfl, HC⟩
        case rest => as_aux_lemma =>
          obtain ⟨s2, vn2, vf2, q2, L2, loose2, e7, e8, HC2⟩ := hcut
          subst e7
          subst e8
          obtain ⟨A7, cap7, rfl, hc7⟩ := RowAt.slice HC2.out.want
          have hqb2 := HC2.out.blk
          have hnum2 := HC2.out.num
          have hsum2 := HC2.out.sum
          have hroom2 := HC2.out.room
          have hwlen := HC2.out.full.st.wf.len
          have hneL : (q2.live != ((wnt s2.nodes L2).length : Int)) = false := by simp; omega
          have hneN : (((s2.nodes.length - s2.free.length : Nat) : Int) != ((wnt s2.nodes L2).length : Int) + q2.dead + (loose2 : Int)) = false := by simp; omega
          have hneF : (((s2.room - (s2.nodes.length - s2.free.length) : Nat) : Int) != 12 - ((s2.nodes.length - s2.free.length : Nat) : Int)) = false := by simp; omega
          have hN1 : ((s2.nodes.length - s2.free.length : Nat) : Int) ≤ 12 := by omega
          have hN0 : 0 ≤ ((s2.nodes.length - s2.free.length : Nat) : Int) := by omega
          have hm1 : (wnt s2.nodes L2).length ≤ 12 := by omega
          have hd1 : 0 ≤ q2.dead := by omega
          have hd2 : q2.dead ≤ 12 := by omega
          have hl2 : loose2 ≤ 12 := by omega
          have hAll := all_any w.heap.size 0 s2 vn2 vf2 q2 L2 wc HC2.out.full.st
          have hLive := fun W (ho : Only Nil wc W) => live_any w.heap.size 0 s2 vn2 vf2 q2 L2 W (HC2.out.full.only ho).st
          have hDead := fun W (ho : Only Nil wc W) => dead_any w.heap.size 0 s2 vn2 vf2 q2 L2 W (HC2.out.full.only ho).st
          rw [hqb2] at hAll hLive hDead
          rw [wnt_hds] at hAll
          have HAll := Lib.hid hAll
          have HLive := Lib.hid hLive
          have HDead := Lib.hid hDead
          have HLen := Lib.hid (fun W (ho : Only Nil wc W) => len_any w.heap.size s2 vn2 vf2 W (HC2.out.full.only ho).st.rep HC2.out.full.st.wf)
          have HFree := Lib.hid (fun W (ho : Only Nil wc W) => free_any w.heap.size s2 vn2 vf2 W (HC2.out.full.only ho).st.rep HC2.out.full.st.wf)
          clear hAll hLive hDead hnum2 hsum2 hroom2 hwlen
          go_wp2_with fail
          refine HAll.out.mono ?_
          rintro e w1 ⟨r, rfl, hrow, hfresh, ho1⟩
          have HSm := Lib.hid (same_at w.heap.size _ _ _ w1 hrow (RowAt.nil HC2.out.want ho1) (by omega))
          clear hrow hfresh
          go_wp2_with fail
          refine HSm.out.mono ?_
          rintro e w2 ⟨rfl, n1, rfl⟩
          go_wp2_with fail
          refine (HLive.out _ (ho1.drewN _)).mono ?_
          rintro e w2 ⟨rfl, rfl⟩
          go_wp2_with fail
          refine (HDead.out _ (ho1.drewN _)).mono ?_
          rintro e w2 ⟨rfl, rfl⟩
          go_wp2_with fail
          refine (HLen.out _ (ho1.drewN _)).mono ?_
          rintro e w2 ⟨rfl, n2, rfl⟩
          go_wp2_with fail
          refine (HFree.out _ (ho1.drewN _)).mono ?_
          rintro e w2 ⟨rfl, n3, rfl⟩
          go_wp2_with fail
          refine (HLen.out _ (ho1.drewN _)).mono ?_
          rintro e w2 ⟨rfl, n4, rfl⟩
          go_wp2
          go_roundg (n - (k + 1))
          case measure => omega
          case rel => exact ⟨k + 1, s2, vn2, vf2, q2, L2, loose2, by omega, rfl, by go_num, rfl, rfl, HC2.out.step (ho1.drewN _)⟩
    · go_wp2
      go_ret
      exact ⟨rfl, HO.out.only.toBelow⟩
end Or
end Go.Proofs.Ytnhedhmffgaohaa
