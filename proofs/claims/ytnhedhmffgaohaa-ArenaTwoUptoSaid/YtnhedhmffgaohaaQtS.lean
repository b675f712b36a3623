/- The walks of swept, Pop, Sweep, All. -/
import Derived.Test.YtnhedhmffgaohaaQtR
import Derived.Test.YtnhedhmffgaohaaQuM2
namespace Go.Proofs.Ytnhedhmffgaohaa
open Go.RowKit
namespace ArT

theorem nbr_of {ns : List Nd} {q : Qu} {L1 L2 : List Nat} {i : Nat} {d : Nd} (h : QOk ns q (L1 ++ i :: L2)) (hd' : ns[i]? = some d) : Nbr ns i d.ahead ∧ Nbr ns i d.back ∧ (d.ahead = d.back → d.ahead = -1) := by
  obtain ⟨_, _, ha, hb⟩ := lk_at h.lk hd'
  have hnd := h.nd
  rw [List.nodup_append, List.nodup_cons] at hnd
  obtain ⟨n1, ⟨n2, n3⟩, n4⟩ := hnd
  refine ⟨?_, ?_, ?_⟩
  · rw [ha]
    rcases List.eq_nil_or_concat L1 with rfl | ⟨L', c, rfl⟩
    · exact .inl rfl
    · rw [List.concat_eq_append] at *
      obtain ⟨e, h1, _⟩ := lk_mem h.lk (k := c) (by simp)
      exact .inr ⟨c, e, by rw [lst_snoc], h1, fun e => n4 c (by simp) i (by simp) e⟩
  · rw [hb]
    cases L2 with
    | nil => exact .inl rfl
    | cons c L2 =>
      obtain ⟨e, h1, _⟩ := lk_mem h.lk (k := c) (by simp)
      exact .inr ⟨c, e, rfl, h1, fun e => n2 (by simp [e])⟩
  · rw [ha, hb]
    intro e
    rcases List.eq_nil_or_concat L1 with rfl | ⟨L', c, rfl⟩
    · rfl
    · rw [List.concat_eq_append, lst_snoc] at e
      cases L2 with
      | nil => simp only [hd_nil] at e; omega
      | cons c' L2 =>
        simp only [hd_cons] at e
        exact absurd (show c = c' by omega) (n4 c (by simp) c' (by simp))

/-- A value's cells. -/
def IsV (v : List Value) : Prop := ∃ (x : Int) (y : ByteArray), v = [.int .i64 x, .string y]
/-- The blocks that an arena's queue turns. -/
def QD (A : Nat) (q : Qu) (vn vf : Value) (b : Nat) : Prop := b = A ∨ b = q.blk ∨ vn.ownBlock = some b ∨ vf.ownBlock = some b

set_option maxHeartbeats 1600000 in
set_option maxRecDepth 100000 in
theorem swept_any (A j : Nat) (s : Ar) (vn vf : Value) (q : Qu) (L1 L2 : List Nat) (w : World) (h : QSt w A j s vn vf q (L1 ++ L2)) (hf : s.fr) (hvs : ∀ d ∈ s.nodes, IsV d.v) :
    Calls Try.prog 123 #[.pointer (some ⟨q.blk, 0, none⟩), .int .i64 (hd L2 (-1))] w fun e w' => e = .returned (.int .i64 ((L1.filter fun k => !alive s.nodes k).length : Int)) ∧
      ∃ s' vf' q', Swept 2 [.int .i64 0, .string zstr] j s s' q q' L1 L2 ∧ ArRep w' A s' vn vf' ∧ (∀ b, vf'.ownBlock = some b → vf.ownBlock = some b ∨ w.heap.size ≤ b) ∧ Only (QD A q vn vf) w w' := by
  obtain ⟨hA1, hQ0, hQ1, hQ2, hQ3, hQ4, hAlt, hqlt⟩ := h.own
  have hL65 := h.lo
  rw [List.length_append] at hL65
  have H := Lib.hid h
  have HVs := Lib.hid hvs
  clear hvs
  have hfst := h.ok.first
  rw [hd_append] at hfst
  rw [hfst] at hQ1
  have hst : Swept 2 [.int .i64 0, .string zstr] j s s q q [] (L1 ++ L2) := Swept.start h.hq h.ok h.wf hf
  have hSt := Lib.hid hst
  clear h hfst hst hA1 hQ0 hQ2 hQ3 hQ4
  go_enter Try.func123, Try.ntmps123
  go_wp2
  clear hQ1
  go_loopg [5, 6] (L1.length) (fun k v5 v6 wr => ∃ (P R : List Nat) (s' : Ar) (q' : Qu) (vf' : Value), Hid (L1 = P ++ R) ∧ R.length = k ∧ v5 = .int .i64 ((P.filter fun k => !alive s.nodes k).length : Int) ∧ v6 = .int .i64 (hd (R ++ L2) (-1)) ∧
    Hid (Swept 2 [.int .i64 0, .string zstr] j s s' q q' P (R ++ L2)) ∧ Hid (ArRep wr A s' vn vf') ∧ Hid (∀ b, vf'.ownBlock = some b → vf.ownBlock = some b ∨ w.heap.size ≤ b) ∧ Only (QD A q vn vf) w wr)
  case atStart => exact ⟨[], L1, s, q, vf, Lib.hid rfl, rfl, rfl, by rw [hd_append], hSt, H.out.rep, fun b hb => .inl hb, Only.refl _ _⟩
  case round =>
    obtain ⟨P, R, s', q', vf', HL, hk, rfl, rfl, HS, HR, HV, hon⟩ := hrel
    have hqs := HS.out.qs
    have hbk := HS.out.blk
    have hst : QSt wr A j s' vn vf' q' (P.filter (alive s.nodes) ++ (R ++ L2)) := ⟨HR.out, HS.out.wf, by rw [hqs, blk_map_set H.out.hq hbk]; exact H.out.nodup, HS.out.hq, HS.out.ok, by
      have h1 := List.length_filter_le (alive s.nodes) P
      have h2 := congrArg List.length HL.out
      simp only [List.length_append] at h2 ⊢
      omega⟩
    have hlen := hst.wf.len
    have hroom := hst.wf.room
    have hcl : (P.filter fun k => !alive s.nodes k).length ≤ 65536 := by
      have h1 := List.length_filter_le (fun k => !alive s.nodes k) P
      have h2 := congrArg List.length HL.out
      simp only [List.length_append] at h2
      omega
    have Hst := Lib.hid hst
    have Hbk := Lib.hid hbk
    clear hqs hbk hst
    cases R with
    | nil =>
      have hn : (P.filter fun k => !alive s.nodes k).length = (L1.filter fun k => !alive s.nodes k).length := by rw [HL.out, List.append_nil]
      have Hn := Lib.hid hn
      clear hn
      simp only [List.nil_append]
      go_wp2
      go_ret
      exact ⟨ret_int (by rw [Hn.out]), s', vf', q', by have e := HL.out; rw [List.append_nil] at e; rw [e]; exact HS.out, HR.out, HV.out, hon⟩
    | cons i R =>
      obtain ⟨d, hd1, hdt, hdq⟩ := lk_mem Hst.out.ok.lk (k := i) (by simp)
      obtain ⟨g, c, rfl⟩ := Hst.out.row hd1
      have hi : i < s'.nodes.length := (List.getElem?_eq_some_iff.1 hd1).1
      obtain ⟨y, y', hn⟩ := node_of Hst.out.rep.n Hst.out.wf.cells hd1
      obtain ⟨_, _, _, hdb⟩ := lk_at Hst.out.ok.lk (L1 := P.filter (alive s.nodes)) (L2 := R ++ L2) hd1
      have hn0 := hn.c0
      have hn0' := hn.c0'
      have hn1 := hn.c1
      have hn2 := hn.c2
      have hn3 := hn.c3
      have hn4 := hn.c4
      have hn5 := hn.c5
      have hn6 := hn.c6
      rw [hdb] at hn6
      obtain ⟨hA1, hQ0, hQ1, hQ2, hQ3, hQ4, hAlt1, hqlt1⟩ := Hst.out.own
      rw [Hbk.out] at hQ0 hqlt1
      have hgl : g < wr.heap.size := own_lt Hst.out.rep.n rfl
      have ht : ((i : Int) != hd L2 (-1)) = true := by
        rw [bne_iff_ne]
        cases L2 with
        | nil => simp only [hd_nil]; omega
        | cons k L2 =>
          simp only [hd_cons]
          intro e
          have hnd := HS.out.nd
          rw [List.nodup_append] at hnd
          have := hnd.2.1
          simp only [List.cons_append, List.nodup_cons] at this
          exact this.1 (by have : i = k := by omega
                           simp [this])
      have Hd1 := Lib.hid hd1
      have Hdb := Lib.hid hdb
      have Hdt := Lib.hid hdt
      have Hdq := Lib.hid hdq
      have hv := hn.v
      obtain ⟨x, x', hx, hx'⟩ : ∃ (x : Int) (x' : ByteArray), y = .int .i64 x ∧ y' = .string x' := by
        rcases HS.out.v (List.mem_of_getElem? hd1) with e | ⟨d0, h0, e⟩
        · rw [hv] at e; injection e with e e'; injection e' with e' _; exact ⟨_, _, e, e'⟩
        · obtain ⟨x, x', hx⟩ := HVs.out d0 h0
          rw [hv, hx] at e; injection e with e e'; injection e' with e' _; exact ⟨_, _, e, e'⟩
      subst hx
      subst hx'
      rw [hdt] at hn2
      rw [hdq] at hn4
      simp only [qptr, Option.map_some, Hbk.out] at hn4
      have Hv := Lib.hid hv
      simp only [List.cons_append, hd_cons]
      have hal := alive_at hd1
      rw [HS.out.alive] at hal
      clear hn hQ1 hQ2 hQ3 hQ4 hd1 hdb hdt hdq hv
      cases hdd : d.dead with
      | false =>
        rw [hdd] at hn3 hal
        have Hal := Lib.hid hal
        clear hal hdd
        go_wp2
        go_roundg (R.length)
        case measure => simp at hk; omega
        case rel =>
          refine ⟨P ++ [i], R, s', q', vf', Lib.hid (by rw [HL.out]; simp), rfl, ?_, rfl, Lib.hid (HS.out.keep Hal.out), ?_, HV, hon.alloc _⟩
          · rw [List.filter_append]; simp [Hal.out]
          · exact HR.out.alloc _
      | true =>
        rw [hdd] at hn3 hal
        have Hal := Lib.hid hal
        have Hdd := Lib.hid hdd
        clear hal hdd
        simp only [Bool.not_true] at Hal
        have hg0 := Hst.out.at Hd1.out
        obtain ⟨nb1, nb2, nb3⟩ := nbr_of (L1 := P.filter (alive s.nodes)) (L2 := R ++ L2) Hst.out.ok Hd1.out
        have hob := fun W (ho : Only Nil wr W) => out_any A g c i j s' vf' q' d W (hg0.mk' ho) nb1 nb2 nb3
        rw [Hbk.out] at hob
        have Hout := Lib.hid hob
        clear hob nb1 nb2 nb3 hg0
        go_wp2_with fail
        refine (handle_any A g s'.nodes.length c (i : Int) (d.life : Int) _ ?_ (by omega) (by omega) (by omega) ?_ ?_ ?_).mono ?_
        · go_simp
        · go_simp
        · go_simp
        · go_simp
        rintro e w' ⟨rfl, rfl⟩
        go_wp2_with fail
        refine (Hout.out _ ((((Only.refl Nil wr).alloc _).alloc _).alloc _)).mono ?_
        rintro e w2 ⟨rfl, r2, o2⟩
        have hAs := hAlt1
        have r2' : ArRep w2 A { s' with nodes := outN s'.nodes i d, qs := s'.qs.set j (outQ q' d) } (.slice (some ⟨g, 0, none⟩) (outN s'.nodes i d).length c) vf' := by rw [outN_length]; exact r2
        have hd2 : (outN s'.nodes i d)[i]? = some { d with inq := none } := by rw [outN_get s'.nodes i d hi, if_pos rfl]
        have hcp := o2.blk (blk_alloc (blk_alloc (blk_new wr _) _) _) (by rintro (h | h) <;> omega)
        have hbx := o2.blk (blk_new' _ _ (wr.heap.size + 1 + 1) (by simp)) (by rintro (h | h) <;> omega)
        have hvl : ∀ b, vf'.ownBlock = some b → b < wr.heap.size := fun b hb => own_lt HR.out.f hb
        have HD := Lib.hid (fun W (ho : Only Nil w2 W) => drop_ok A g c i _ vf' _ W (r2'.only ho (fun _ _ h => h)) (wf_out HS.out.wf Hd1.out) hd2 Hdt.out rfl)
        have hQ0' : w2.cell? ⟨q.blk, 0, none⟩ = some (.pointer (some ⟨A, 0, none⟩)) := by
          have hb := (r2.base (j := j) (q := outQ q' d) (List.getElem?_set_self (List.getElem?_eq_some_iff.1 HS.out.hq).1)).2.1
          have e : (outQ q' d).blk = q.blk := Hbk.out
          rw [e] at hb; exact hb
        have hqA : q.blk ≠ A := by
          have := (r2.apartQ (j := j) (q := outQ q' d) (List.getElem?_set_self (List.getElem?_eq_some_iff.1 HS.out.hq).1)).2.1
          have e : (outQ q' d).blk = q.blk := Hbk.out
          rw [e] at this; exact this
        have hqg : q.blk ≠ g := by
          have := (r2.apartQ (j := j) (q := outQ q' d) (List.getElem?_set_self (List.getElem?_eq_some_iff.1 HS.out.hq).1)).2.2.2.1
          have e : (outQ q' d).blk = q.blk := Hbk.out
          rw [e] at this; exact this
        have hqv : vf'.ownBlock ≠ some q.blk := by
          have := own_blk_ne HR.out.f (HR.out.q q' (List.mem_of_getElem? HS.out.hq)) (by decide)
          rw [Hbk.out] at this; exact this
        have Sof : ∀ W, Only (fun b => b = A ∨ b = g ∨ vf'.ownBlock = some b) w2 W → W.cell? ⟨q.blk, 0, none⟩ = some (.pointer (some ⟨A, 0, none⟩)) ∧ W.cell? ⟨wr.heap.size + 1 + 1, 0, none⟩ = some (.int .u32 i) ∧ W.cell? ⟨wr.heap.size + 1 + 1, 1, none⟩ = some (.int .u32 d.life) := fun W ho => by
          have hb := ho.blk hbx (by rintro (h | h | h); omega; omega; have := hvl _ h; omega)
          refine ⟨(ho.cell (p := ⟨q.blk, 0, none⟩) (Nat.lt_of_lt_of_le hqlt1 (by have := o2.size; simp only [World.size_alloc] at this; omega)) ?_).trans hQ0', blk_cell hb 0, blk_cell hb 1⟩
          rintro (h | h | h)
          · exact hqA h
          · exact hqg h
          · exact hqv h
        have HSof := Lib.hid Sof
        have Hcp := Lib.hid hcp
        have HO2 := Lib.hid o2
        have hq2 : q.blk < w2.heap.size := by have := o2.size; simp only [World.size_alloc] at this; omega
        have hb2 : wr.heap.size + 1 + 1 < w2.heap.size := blk_lt hbx
        have HR2 := Lib.hid r2
        have HVl := Lib.hid hvl
        have Hqs := Lib.hid (And.intro hqA (And.intro hqg hqv))
        clear r2 r2' hd2 hcp hbx hvl hQ0' hqA hqg hqv Sof o2 hAs hn0 hn0' hn1 hn2 hn3 hn4 hn5 hn6 hA1 hQ0
        go_wp2
        go_region_held3 (fun w' => w'.cell? ⟨q.blk, 0, none⟩ = some (.pointer (some ⟨A, 0, none⟩)) ∧ w'.cell? ⟨wr.heap.size + 1 + 1, 0, none⟩ = some (.int .u32 i) ∧ w'.cell? ⟨wr.heap.size + 1 + 1, 1, none⟩ = some (.int .u32 d.life))
          (first | exact HSof.out _ ((Only.refl _ _).drew) | exact HSof.out _ (((Only.refl _ _).drew).trans od (fun _ _ h => h)))
          ((first
            | (go_at_call 63; go_split_ands; (refine (HD.out _ ((Only.refl _ _).drew)).mono ?_); rintro e wd ⟨rfl, vf2, rd, hvd, od⟩)))
        have hod := (((Only.refl _ w2).drew).trans od (fun _ _ h => h) : Only (fun b => b = A ∨ b = g ∨ vf'.ownBlock = some b) w2 wd)
        have hcw := hod.blk Hcp.out (by rintro (h | h | h); omega; omega; have := HVl.out _ h; omega)
        have hc6 := blk_cell hcw 7
        have hclt := blk_lt hcw
        simp only [List.getElem?_toArray, List.getElem?_cons_zero, List.getElem?_cons_succ] at hc6
        have HRd := Lib.hid rd
        have Hvd := Lib.hid hvd
        have Hod := Lib.hid hod
        clear rd hvd hod od hcw
        go_wp2
        have hsz : w.heap.size ≤ w2.heap.size := by
          have h1 := hon.size
          have h2 := HO2.out.size
          simp only [World.size_alloc] at h2
          omega
        go_roundg (R.length)
        case measure => simp at hk; omega
        case rel =>
          refine ⟨P ++ [i], R, _, outQ q' d, vf2, Lib.hid (by rw [HL.out]; simp), rfl, ?_, rfl, Lib.hid (HS.out.drop Hd1.out Hdd.out rfl), ?_, Lib.hid (fun b hb => ?_), ?_⟩
          · rw [List.filter_append]; simp [Hal.out]
          · have e := HRd.out
            rw [outN_length] at e
            exact e
          · rcases Hvd.out with e | e
            · exact HV.out b (by rw [← e]; exact hb)
            · right
              have := e b hb
              exact Nat.le_trans hsz this
          · have o3 : Only (fun x => x = q.blk ∨ x = g) wr w2 := ((((Only.refl _ wr).alloc _).alloc _).alloc _).trans HO2.out (fun _ _ h => h)
            have o4 : Only (fun b => b = A ∨ b = q.blk ∨ b = g ∨ vf'.ownBlock = some b) wr wd := (o3.mono (fun b _ h => by rcases h with h | h; exact .inr (.inl h); exact .inr (.inr (.inl h)))).trans Hod.out (fun b _ h => by
              rcases h with h | h | h
              · exact .inl h
              · exact .inr (.inr (.inl h))
              · exact .inr (.inr (.inr h)))
            refine hon.trans o4 fun b hb h => ?_
            rcases h with h | h | h | h
            · exact .inl h
            · exact .inr (.inl h)
            · exact .inr (.inr (.inl (by rw [h]; rfl)))
            · rcases HV.out b h with e | e
              · exact .inr (.inr (.inr e))
              · omega
end ArT
end Go.Proofs.Ytnhedhmffgaohaa
