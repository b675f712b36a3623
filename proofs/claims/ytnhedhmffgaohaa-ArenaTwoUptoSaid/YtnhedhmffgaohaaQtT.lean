/- The walks of Pop, Sweep, All; and of 'same', that holds two rows of handles against each other. -/
import Derived.Test.YtnhedhmffgaohaaQtS
import Derived.Test.YtnhedhmffgaohaaOrM
namespace Go.Proofs.Ytnhedhmffgaohaa
open Go.RowKit
namespace ArT

theorem firstLive_at {ns : List Nd} {L1 L2 : List Nat} {i : Nat} (h1 : ∀ k ∈ L1, alive ns k = false) (h2 : alive ns i = true) : firstLive ns (L1 ++ i :: L2) = (i : Int) := by
  induction L1 with
  | nil => rw [List.nil_append, firstLive_cons, if_pos h2]
  | cons k L1 ih => rw [List.cons_append, firstLive_cons, h1 k (by simp), if_neg (by simp), ih (fun j hj => h1 j (by simp [hj]))]
theorem firstLive_none {ns : List Nd} {L : List Nat} (h : ∀ k ∈ L, alive ns k = false) : firstLive ns L = -1 := by
  induction L with
  | nil => rfl
  | cons k L ih => rw [firstLive_cons, h k (by simp), if_neg (by simp), ih (fun j hj => h j (by simp [hj]))]

theorem swept_st {w : World} {A j : Nat} {s s' : Ar} {vn vf : Value} {q q' : Qu} {P M : List Nat} (h : Swept 2 [.int .i64 0, .string zstr] j s s' q q' P M) (hr : ArRep w A s' vn vf) (hq : s.qs[j]? = some q) (hn : (s.qs.map Qu.blk).Nodup) (hl : (P ++ M).length ≤ 65536) :
    QSt w A j s' vn vf q' (P.filter (alive s.nodes) ++ M) :=
  ⟨hr, h.wf, by rw [h.qs, blk_map_set hq h.blk]; exact hn, h.hq, h.ok, by
    have h1 := List.length_filter_le (alive s.nodes) P
    simp only [List.length_append] at hl ⊢
    omega⟩

theorem out_st {w w2 : World} {A j i : Nat} {s : Ar} {vn vf vn' vf' : Value} {q : Qu} {L1 L2 : List Nat} {d : Nd} (h : QSt w A j s vn vf q (L1 ++ i :: L2)) (hd' : s.nodes[i]? = some d) (hr : ArRep w2 A { s with nodes := outN s.nodes i d, qs := s.qs.set j (outQ q d) } vn' vf') :
    QSt w2 A j { s with nodes := outN s.nodes i d, qs := s.qs.set j (outQ q d) } vn' vf' (outQ q d) (L1 ++ L2) :=
  ⟨hr, wf_out h.wf hd', by show ((s.qs.set j _).map Qu.blk).Nodup; rw [blk_map_set (q' := outQ q d) h.hq rfl]; exact h.nodup, List.getElem?_set_self (List.getElem?_eq_some_iff.1 h.hq).1, out_ok h.ok hd', by
    have := h.lo
    simp only [List.length_append, List.length_cons] at this ⊢
    omega⟩

theorem firstLive_split (ns : List Nd) (M : List Nat) : (firstLive ns M = -1 ∧ ∀ k ∈ M, alive ns k = false) ∨ ∃ M1 i M2, M = M1 ++ i :: M2 ∧ (∀ k ∈ M1, alive ns k = false) ∧ alive ns i = true ∧ firstLive ns M = (i : Int) := by
  induction M with
  | nil => exact .inl ⟨rfl, by simp⟩
  | cons k M ih =>
    cases hk : alive ns k with
    | true => exact .inr ⟨[], k, M, rfl, by simp, hk, by rw [firstLive_cons, if_pos hk]⟩
    | false =>
      rw [firstLive_cons, hk, if_neg (by simp)]
      rcases ih with ⟨h1, h2⟩ | ⟨M1, i, M2, rfl, h1, h2, h3⟩
      · exact .inl ⟨h1, fun j hj => by rcases List.mem_cons.1 hj with rfl | hj; exact hk; exact h2 j hj⟩
      · exact .inr ⟨k :: M1, i, M2, rfl, fun j hj => by rcases List.mem_cons.1 hj with rfl | hj; exact hk; exact h1 j hj, h2, h3⟩
/-! ### Sweep -/
set_option maxHeartbeats 800000 in
set_option maxRecDepth 100000 in
theorem sweep_any (A j : Nat) (s : Ar) (vn vf : Value) (q : Qu) (L : List Nat) (w : World) (h : QSt w A j s vn vf q L) (hf : s.fr) (hvs : ∀ d ∈ s.nodes, IsV d.v) :
    Calls Try.prog 80 #[.pointer (some ⟨q.blk, 0, none⟩)] w fun e w' => e = .returned (.int .i64 q.dead) ∧
      ∃ s' vf' q', Swept 2 [.int .i64 0, .string zstr] j s s' q q' L [] ∧ ArRep w' A s' vn vf' ∧ (∀ b, vf'.ownBlock = some b → vf.ownBlock = some b ∨ w.heap.size ≤ b) ∧ Only (QD A q vn vf) w w' := by
  have HS := Lib.hid (swept_any A j s vn vf q L [] w (by rw [List.append_nil]; exact h) hf hvs)
  have hdead := Lib.hid h.ok.dead
  clear h hf hvs
  go_enter Try.func80, Try.ntmps80
  go_wp2_with fail
  refine HS.out.mono ?_
  rintro e w1 ⟨rfl, hp⟩
  have HP := Lib.hid hp
  clear hp
  go_wp2
  go_ret
  exact ⟨ret_int hdead.out.symm, HP.out⟩

/-! ### Pop -/
set_option maxHeartbeats 800000 in
set_option maxRecDepth 100000 in
theorem pop_none (A j : Nat) (s : Ar) (vn vf : Value) (q : Qu) (L : List Nat) (w : World) (h : QSt w A j s vn vf q L) (hd' : ∀ k ∈ L, alive s.nodes k = false) :
    Calls Try.prog 78 #[.pointer (some ⟨q.blk, 0, none⟩)] w fun e w' => e = .returned (.tuple #[.agg #[.int .u32 0, .int .u32 0], .bool false]) ∧ Only Nil w w' := by
  have h0 := h.only ((Only.refl Nil w).alloc (.cells #[.int .u32 0, .int .u32 0] tH))
  have hn := next_any A j s vn vf q L (-1) L _ h0 h.ok.lk
  rw [firstLive_none hd'] at hn
  rw [← h.ok.first] at hn
  have HN := Lib.hid hn
  obtain ⟨hA1, hQ0, hQ1, hQ2, hQ3, hQ4, hAlt, hqlt⟩ := h.own
  clear h h0 hn hd' hA1 hQ0 hQ2 hQ3 hQ4
  go_enter Try.func78, Try.ntmps78
  go_wp2_with fail
  refine HN.out.mono ?_
  rintro e w1 ⟨rfl, rfl⟩
  go_wp2
  refine bodyPost_ret (v := .tuple #[.agg #[.int .u32 0, .int .u32 0], .bool false]) (by simp [results, Try.results78, go_sem]) rfl ⟨rfl, ?_⟩
  exact (Only.refl _ w).alloc _

set_option maxHeartbeats 1600000 in
set_option maxRecDepth 100000 in
theorem pop_some (A j i : Nat) (s : Ar) (vn vf : Value) (q : Qu) (L1 L2 : List Nat) (w : World) (h : QSt w A j s vn vf q (L1 ++ i :: L2)) (hf : s.fr) (hvs : ∀ d ∈ s.nodes, IsV d.v) (h1 : ∀ k ∈ L1, alive s.nodes k = false) (h2 : alive s.nodes i = true) :
    Calls Try.prog 78 #[.pointer (some ⟨q.blk, 0, none⟩)] w fun e w' => ∃ s' vf' q' d, e = .returned (.tuple #[.agg #[.int .u32 i, .int .u32 (d.life : Int)], .bool true]) ∧
      Swept 2 [.int .i64 0, .string zstr] j s s' q q' L1 (i :: L2) ∧ s'.nodes[i]? = some d ∧ ArRep w' A { s' with nodes := outN s'.nodes i d, qs := s'.qs.set j (outQ q' d) } vn vf' ∧ (∀ b, vf'.ownBlock = some b → vf.ownBlock = some b ∨ w.heap.size ≤ b) ∧ Only (QD A q vn vf) w w' := by
  have h0 := h.only ((Only.refl Nil w).alloc (.cells #[.int .u32 0, .int .u32 0] tH))
  have hn := next_any A j s vn vf q _ (-1) _ _ h0 h.ok.lk
  rw [firstLive_at h1 h2] at hn
  rw [← h.ok.first] at hn
  have HN := Lib.hid hn
  have hs := swept_any A j s vn vf q L1 (i :: L2) _ h0 hf hvs
  simp only [hd_cons] at hs
  have HS := Lib.hid hs
  have hL65 := h.lo
  have H := Lib.hid h
  have ht : ((i : Int) == -1) = false := beq_eq_false_iff_ne.2 (by omega)
  obtain ⟨hA1, hQ0, hQ1, hQ2, hQ3, hQ4, hAlt, hqlt⟩ := h.own
  obtain ⟨d0, hd0, _, _⟩ := lk_mem h.ok.lk (k := i) (by simp)
  obtain ⟨g, c, rfl⟩ := h.row hd0
  have hfl : L1.filter (alive s.nodes) = [] := List.filter_eq_nil_iff.2 fun k hk => by rw [h1 k hk]; simp
  have Hfl := Lib.hid hfl
  clear h h0 hn hs h1 h2 hA1 hQ0 hQ2 hQ3 hQ4 hd0 hfl hvs
  go_enter Try.func78, Try.ntmps78
  go_wp2_with fail
  refine HN.out.mono ?_
  rintro e w1 ⟨rfl, rfl⟩
  go_wp2_with fail
  refine HS.out.mono ?_
  rintro e w1 ⟨rfl, s', vf', q', hsw, hr1, hv1, ho1⟩
  have hst := swept_st hsw hr1 H.out.hq H.out.nodup hL65
  rw [Hfl.out, List.nil_append] at hst
  obtain ⟨d, hd1, hdt, hdq⟩ := lk_mem hst.ok.lk (k := i) (by simp)
  have hst' := hst
  rw [← hsw.len] at hst'
  have hat := hst'.at hd1
  obtain ⟨nb1, nb2, nb3⟩ := nbr_of (L1 := []) (L2 := L2) hst.ok hd1
  have hob := out_any A g c i j s' vf' q' d w1 hat nb1 nb2 nb3
  rw [hsw.blk] at hob
  have HO := Lib.hid hob
  have hi : i < s'.nodes.length := (List.getElem?_eq_some_iff.1 hd1).1
  have HSw := Lib.hid hsw
  have Hst := Lib.hid hst
  have Hd1 := Lib.hid hd1
  have Hat := Lib.hid hat
  have hbx := ho1.blk (blk_new w _) (by
    rintro (h | h | h | h)
    · omega
    · omega
    · have := own_lt H.out.rep.n h; omega
    · have := own_lt H.out.rep.f h; omega)
  have Hbx := Lib.hid hbx
  have HV1 := Lib.hid hv1
  have HO1 := Lib.hid ho1
  clear hsw hr1 hst hst' hat nb1 nb2 nb3 hob hd1 hdt hdq hbx hv1 ho1
  go_wp2_with fail
  refine HO.out.mono ?_
  rintro e w2 ⟨rfl, r2, o2⟩
  have hlen' : (outN s'.nodes i d).length = s'.nodes.length := outN_length _ _ _
  have r2' := r2
  rw [← hlen'] at r2'
  have hd2 : (outN s'.nodes i d)[i]? = some { d with inq := none } := by rw [outN_get s'.nodes i d hi, if_pos rfl]
  have hst2 := out_st (L1 := []) (L2 := L2) Hst.out Hd1.out r2
  have hst2' := hst2
  rw [← hlen'] at hst2'
  have hto := told_at A g c i j _ vf' _ _ w2 (hst2'.at hd2)
  have e : (outQ q' d).blk = q.blk := HSw.out.blk
  rw [e] at hto
  have HT := Lib.hid hto
  have hbx2 := o2.blk Hbx.out (by
    rintro (h | h)
    · omega
    · have := own_lt H.out.rep.n (k := g) rfl; omega)
  have O2 := Lib.hid o2
  have R2 := Lib.hid r2
  have hbl := blk_lt hbx2
  have Hbx2 := Lib.hid hbx2
  clear r2 o2 hlen' r2' hd2 hst2 hst2' hto e hbx2
  go_wp2_with fail
  refine HT.out.mono ?_
  rintro e w3 ⟨rfl, o3⟩
  have hbx3 := o3.blk Hbx2.out (fun h => h)
  have hB0 := blk_cell hbx3 0
  have hB1 := blk_cell hbx3 1
  have hBl := blk_lt hbx3
  have hBf0 := blk_frozen hbx3 0
  have hBf1 := blk_frozen hbx3 1
  simp only [List.getElem?_toArray, List.getElem?_cons_zero, List.getElem?_cons_succ] at hB0 hB1
  have O3 := Lib.hid o3
  clear o3 hbx3 hQ1
  go_wp2
  refine bodyPost_ret (v := .tuple #[.agg #[.int .u32 i, .int .u32 d.life], .bool true]) (by simp [results, Try.results78, go_sem, hB0, hB1]) rfl ⟨s', vf', q', d, rfl, HSw.out, Hd1.out, ?_, ?_, ?_⟩
  · have o : Only (fun b => b = w.heap.size) w2 ((w3.setCell ⟨w.heap.size, 0, none⟩ (.int .u32 i)).setCell ⟨w.heap.size, 1, none⟩ (.int .u32 d.life)) :=
      ((O3.out.mono (T := fun b => b = w.heap.size) (fun _ _ h => h.elim)).setCell (p := ⟨w.heap.size, 0, none⟩) (.inl rfl) _).setCell (p := ⟨w.heap.size, 1, none⟩) (.inl rfl) _
    have r := R2.out.apart o (fun b hb => ⟨tH, by rw [hb]; exact blk_ty Hbx2.out, by decide, by decide, by decide, by decide⟩)
    rw [HSw.out.len] at r
    exact r
  · intro b hb
    rcases HV1.out b hb with h | h
    · exact .inl h
    · right
      simp only [World.size_alloc] at h
      omega
  · have o1 := ((Only.refl (QD A q (.slice (some ⟨g, 0, none⟩) s.nodes.length c) vf) w).alloc _).trans HO1.out (fun _ _ h => h)
    have o2 := (o1.trans O2.out (fun b _ h => by rcases h with h | h; exact .inr (.inl h); exact .inr (.inr (.inl (by rw [h]; rfl))))).trans O3.out (fun _ _ h => h.elim)
    exact (o2.setCell (.inr (Nat.le_refl _)) _).setCell (.inr (Nat.le_refl _)) _

/-! ### All -/
set_option maxHeartbeats 1600000 in
set_option maxRecDepth 100000 in
theorem all_any (A j : Nat) (s : Ar) (vn vf : Value) (q : Qu) (L : List Nat) (w : World) (h : QSt w A j s vn vf q L) :
    Calls Try.prog 84 #[.pointer (some ⟨q.blk, 0, none⟩)] w fun e w' => ∃ r, e = .returned r ∧ HRow w' r (hds s.nodes (L.filter (alive s.nodes))) ∧ (∀ k, r.ownBlock = some k → w.heap.size ≤ k) ∧ Only Nil w w' := by
  have hlk := h.ok.lk
  obtain ⟨i0, hi0, hz0, hz1, hz2⟩ := info_parts infoH
  have hn := next_any A j s vn vf q L (-1) L _ h h.ok.lk
  rw [← h.ok.first] at hn
  have HN := Lib.hid hn
  have HL := Lib.hid hlk
  obtain ⟨hA1, hQ0, hQ1, hQ2, hQ3, hQ4, hAlt, hqlt⟩ := h.own
  have hlen := h.wf.len
  have hroom := h.wf.room
  have hlo := h.lo
  have H := Lib.hid h
  clear h hn hlk hQ2 hQ3 hQ4
  go_enter Try.func84, Try.ntmps84
  go_wp2_with fail
  refine HN.out.mono ?_
  rintro e w1 ⟨rfl, rfl⟩
  go_wp2
  go_loopg [3, 4] (L.length) (fun k v3 v4 wr => ∃ (P M : List Nat), Hid (L = P ++ M) ∧ M.length = k ∧ Hid (v4 = .int .i64 (firstLive s.nodes M)) ∧ Hid (HRow wr v3 (hds s.nodes (P.filter (alive s.nodes)))) ∧ Hid (∀ b, v3.ownBlock = some b → w1.heap.size ≤ b) ∧ Only Nil w1 wr)
  case atStart => exact ⟨[], L, Lib.hid rfl, rfl, Lib.hid rfl, own_nil _ _ _ _, Lib.hid (fun b hb => by simp [Value.ownBlock] at hb), Only.refl _ _⟩
  case round =>
    obtain ⟨P, M, hPM, hk, h4, hrow, hb3, hon⟩ := hrel
    have hrl : (hds s.nodes (P.filter (alive s.nodes))).length ≤ 65536 := by
      have h1 := hds_le s.nodes (P.filter (alive s.nodes))
      have h2 := List.length_filter_le (alive s.nodes) P
      have h3 := congrArg List.length hPM.out
      simp only [List.length_append] at h3
      omega
    rcases firstLive_split s.nodes M with ⟨h1, h2⟩ | ⟨M1, i, M2, rfl, h1, h2, h3⟩
    · have e4 := h4.out
      rw [h1] at e4
      subst e4
      have hfin : L.filter (alive s.nodes) = P.filter (alive s.nodes) := by
        have e : M.filter (alive s.nodes) = [] := List.filter_eq_nil_iff.2 (fun k hk => by rw [h2 k hk]; simp)
        rw [hPM.out, List.filter_append, e, List.append_nil]
      have Hfin := Lib.hid hfin
      clear hfin h1 h2 h4
      go_wp2
      go_ret
      exact ⟨_, rfl, by rw [Hfin.out]; exact hrow.out, hb3.out, hon⟩
    · have e4 := h4.out
      rw [h3] at e4
      subst e4
      have hL := hPM.out
      obtain ⟨d, hd1, _, _⟩ := lk_mem HL.out (k := i) (by rw [hL]; simp)
      obtain ⟨g, c, rfl⟩ := H.out.row hd1
      obtain ⟨_, _, _, hdb⟩ := lk_at (L1 := P ++ M1) (L2 := M2) (by have := HL.out; rw [hL] at this; simpa using this) hd1
      have hi : i < s.nodes.length := (List.getElem?_eq_some_iff.1 hd1).1
      have hst := H.out.only hon
      obtain ⟨y, y', hn⟩ := node_of hst.rep.n hst.wf.cells hd1
      have hn1 := hn.c1
      obtain ⟨hA1, hQ0, hQ1, hQ2, hQ3, hQ4, hAlt, hqlt⟩ := hst.own
      have hgl : g < wr.heap.size := own_lt hst.rep.n rfl
      have ht : ((i : Int) != -1) = true := by simp
      have hl2 : Lk s.nodes q.blk (i : Int) M2 (-1) := by
        have := HL.out
        rw [hL, ← List.append_assoc, lk_append] at this
        exact this.2.2
      have hnew : hds s.nodes ((P ++ (M1 ++ [i])).filter (alive s.nodes)) = hds s.nodes (P.filter (alive s.nodes)) ++ [⟨i, d.life⟩] := by
        have e : M1.filter (alive s.nodes) = [] := List.filter_eq_nil_iff.2 fun k hk => by rw [h1 k hk]; simp
        rw [List.filter_append, List.filter_append, e, hds_append]
        simp [h2, hds_one hd1]
      have Hnew := Lib.hid hnew
      have Hl2 := Lib.hid hl2
      have Hst := Lib.hid hst
      have Hd1 := Lib.hid hd1
      have Hdb := Lib.hid hdb
      clear hn h4 h1 h2 h3 hL hd1 hst hdb hl2 hnew hQ1 hQ2 hQ3 hQ4
      go_wp2_with fail
      refine (handle_any A g s.nodes.length c (i : Int) (d.life : Int) _ ?_ (by omega) (by omega) (by omega) ?_ ?_ ?_).mono ?_
      · go_simp
      · go_simp
      · go_simp
      · go_simp
      rintro e w' ⟨rfl, rfl⟩
      go_wp2_with (at_builtin; (refine wpList_append_lies _ rfl (.tmp 26) (.tmp 33) _ rfl 0 32 i0 _ 2 8 Try.underlying27 hi0 hz0 hz1 hz2 rfl (by omega) u3 (hds s.nodes (P.filter (alive s.nodes))).length _ rfl ((World.ownsRow.alloc hrow.out.own _).alloc _) ⟨wr.heap.size + 1, 0, none⟩ 1 1 (Hd.cells ⟨i, d.life⟩) rfl rfl (World.news_of_block (blk_new' _ _ _ (by simp))) (by simp [Hd.cells, Value.oneCell']) (by omega) (bytesH _ hrl).1 (bytesH _ hrl).2 (by omega) _ rfl ?_); intro g' cap w2 hown hgrow hat hlt1; have hon2 : Only Nil w1 w2 := ((hon.alloc _).alloc _).grown hgrow (fun b hb hlt => by have := hb3.out b hb; omega); have hst2 := H.out.only hon2; obtain ⟨hA12, hQ02, _, _, _, _, hAlt2, hqlt2⟩ := hst2.own; obtain ⟨y2, y2', hn2⟩ := node_of hst2.rep.n hst2.wf.cells Hd1.out; have hn26 := hn2.c6; rw [Hdb.out] at hn26; have hgl2 : g < w2.heap.size := own_lt hst2.rep.n rfl; clear hn2 hst2)
      refine (next_any A j s _ vf q L (i : Int) M2 w2 (H.out.only hon2) Hl2.out).mono ?_
      rintro e w2 ⟨rfl, rfl⟩
      have hs1 := hon.size
      have hrow2 : HRow w2 (.slice (some ⟨g', 0, none⟩) ((hds s.nodes (P.filter (alive s.nodes))).length + 1) cap) (hds s.nodes ((P ++ (M1 ++ [i])).filter (alive s.nodes))) := by
        rw [Hnew.out]; unfold HRow; simpa using hown
      have hb2 : ∀ b, (Value.slice (some ⟨g', 0, none⟩) ((hds s.nodes (P.filter (alive s.nodes))).length + 1) cap).ownBlock = some b → w1.heap.size ≤ b := fun b hb => by
        have : g' = b := by simpa [Value.ownBlock] using hb
        subst this
        rcases hat with h | h
        · exact hb3.out _ h
        · simp only [World.size_alloc] at h; omega
      have HR2 := Lib.hid hrow2
      have HB2 := Lib.hid hb2
      clear hown hgrow hat hlt1 hrow2 hb2
      go_wp2
      go_roundg (M2.length)
      case measure => simp at hk; omega
      case rel => exact ⟨P ++ (M1 ++ [i]), M2, Lib.hid (by rw [hPM.out]; simp), rfl, Lib.hid rfl, HR2, HB2, hon2⟩

/-! ### same -/
set_option maxHeartbeats 1600000 in
set_option maxRecDepth 100000 in
theorem same_yes (v1 v2 : Value) (l : List Hd) (w : World) (h1 : HRow w v1 l) (h2 : HRow w v2 l) (hn : l.length ≤ 65536) :
    Calls Try.prog 25 #[v1, v2] w fun e w' => e = .returned (.bool true) ∧ ∃ n, w' = w.drewN n := by
  obtain ⟨A1, c1, rfl, hc1⟩ := own_slice h1.own
  obtain ⟨A2, c2, rfl, hc2⟩ := own_slice h2.own
  have H1 := Lib.hid h1
  have H2 := Lib.hid h2
  clear h1 h2
  go_enter Try.func25, Try.ntmps25
  go_wp2
  go_loopw [5] (fun v wr => ∃ k : Nat, k ≤ l.length ∧ v = .int .i64 k ∧ ∃ n, wr = w.drewN n) (fun i _ => l.length - (intOf i).toNat)
  case atStart => exact ⟨0, Nat.zero_le _, rfl, 0, rfl⟩
  case round =>
    obtain ⟨k, hk, rfl, n, rfl⟩ := hrel
    by_cases hlt : k < l.length
    · obtain ⟨g1, c1', e1, hg1, _, _⟩ := own_row H1.out.own (by omega)
      injection e1 with e1 _ e2
      subst e1
      subst e2
      obtain ⟨g2, c2', e1, hg2, _, _⟩ := own_row H2.out.own (by omega)
      injection e1 with e1 _ e2
      subst e1
      subst e2
      obtain ⟨hx1, hx2⟩ := H1.out.cell (List.getElem?_eq_getElem hlt)
      obtain ⟨hy1, hy2⟩ := H2.out.cell (List.getElem?_eq_getElem hlt)
      generalize l[k] = x at hx1 hx2 hy1 hy2
      go_wp2
      go_quiet (fail)
      go_wp2
      go_roundw
      case rel => exact ⟨k + 1, by omega, by go_num, _, rfl⟩
      case measure => simp [intOf]; omega
    · go_wp2
      go_ret
      exact ⟨rfl, n, rfl⟩
end ArT
end Go.Proofs.Ytnhedhmffgaohaa
