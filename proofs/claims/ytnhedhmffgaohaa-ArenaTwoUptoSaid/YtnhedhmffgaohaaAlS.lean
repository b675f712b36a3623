/- The law's seen: all that can be seen of the two arenas is the same. -/
import Derived.Test.YtnhedhmffgaohaaAlL
import Derived.BigQuiet
namespace Go.Proofs.Ytnhedhmffgaohaa
open Go.RowKit
namespace Al
open Rfw (RfRep RfIs RStep Rp RfD tR tP tS ob_eq)
open ArT (ArRep ArD tA tN tQ tI tH tT)

theorem HRow.nil' {w w' : World} {v : Value} {l : List Hd} (h : HRow w v l) (ho : Only Nil w w') : HRow w' v l := own_only h.own ho (fun _ _ h => h)
theorem Both.d0 {B : Nat → Prop} {w : World} {A D : Nat} {s : Ar} {r : Rf} (h : Both B w A D s r) : ∃ Ap cp, w.cell? ⟨D, 0, none⟩ = some (.slice Ap r.places.length cp) ∧ D < w.heap.size := by
  obtain ⟨vn, vf, p, _, h2, _⟩ := h
  obtain ⟨Ap, cp, e, _⟩ := own_slice h2.p
  exact ⟨Ap, cp, by rw [← e]; exact (RfRep.base h2).1, (RfRep.base h2).2.2.2.2.2⟩

set_option maxHeartbeats 6400000 in
set_option maxRecDepth 100000 in
theorem seen_any {B : Nat → Prop} {w : World} {W A D : Nat} {s : Ar} {Ls : List (List Nat)} {hs : List Hd} {vq vh : Value} (h : Wl B w W A D s Ls hs vq vh) (hn : Ls.length ≤ 4194304) :
    Calls Try.prog 32 #[.pointer (some ⟨W, 0, none⟩)] w fun e w' => e = .returned (.bool true) ∧ Only Nil w w' := by
  obtain ⟨n, m, hn6, hm6, hpl, hlen, hfree, hrlen⟩ := len_both h.pl hn
  obtain ⟨hW0, hW1, hW2, hW3, hWf, hWlt⟩ := h.cells
  obtain ⟨Ap, cp, hD0, hDlt⟩ := h.both.d0
  obtain ⟨A1, c1, e1, hc1⟩ := own_slice h.r.q
  subst e1
  have hLl : (blks s).length = Ls.length := by unfold blks; rw [List.length_map, h.pl.len]
  rw [hpl] at hD0
  have hwr : IntKind.i64.wrap (((n + m : Nat) : Int) - (n : Int)) = (m : Int) := by rw [IntWalk.i64_in _ (by omega)]; omega
  have hmm : ((m : Int) != (n : Int) + (m : Int) - (n : Int)) = false := by rw [show (n : Int) + (m : Int) - (n : Int) = (m : Int) by omega]; simp
  have H := Lib.hid h
  have HLen := Lib.hid hlen
  have HFree := Lib.hid hfree
  have HRLen := Lib.hid hrlen
  have hm4 : (blks s).length ≤ 4194304 := by omega
  have HLl := Lib.hid hLl
  clear h hlen hfree hrlen hpl hLl
  go_enter Try.func32, Try.ntmps32
  go_wp2
  go_quiet ((first
    | (go_at_call 82; exact Calls.quiet_of (HLen.out B _ A D (refOf s Ls) (H.out.both.nil ((Only.refl _ _).drewN _))))
    | (go_at_call 83; exact Calls.quiet_of (HFree.out B _ A D (refOf s Ls) (H.out.both.nil ((Only.refl _ _).drewN _))))
    | (go_at_call 36; exact Calls.quiet_of ((HRLen.out B _ A D s (H.out.both.nil ((Only.refl _ _).drewN _))).mono (fun _ _ h => ⟨h.1, 0, h.2⟩)))))
  go_wp2
  go_loopg [3, 4, 5, 6, 7, 8, 9, 10, 11] ((blks s).length) (fun g v3 v4 v5 v6 v7 v8 v9 v10 v11 wr => ∃ k : Nat, k ≤ (blks s).length ∧ g = (blks s).length - k ∧ v3 = .int .i64 k ∧ Only Nil w wr)
  case atStart => exact ⟨0, Nat.zero_le _, rfl, rfl, (Only.refl _ _).drewN _⟩
  case round =>
    obtain ⟨k, hk, hg, rfl, hon⟩ := hrel
    clear hD0 hDlt hWf hW0 hW1 hW2 hW3 HLen HFree HRLen hwr
    have hw := H.out.nil hon
    obtain ⟨k0, k1, k2, k3, kf, kl⟩ := hw.cells
    by_cases hlt : k < (blks s).length
    · obtain ⟨q, L, hq, hL, _⟩ := H.out.pl.q (j := k) (by rw [← HLl.out]; exact hlt)
      obtain ⟨hal, ral⟩ := all_both H.out.pl hn hq hL
      obtain ⟨hfi, rfi⟩ := first_both H.out.pl hn hq hL
      obtain ⟨dm, hdm, hwl, hli, hde, rde⟩ := count_both H.out.pl hn hq hL
      obtain ⟨g1, c1', e1, hg1, _, _⟩ := own_row hw.r.q (by omega)
      injection e1 with e1 _ e2
      subst e1
      subst e2
      have hqc : wr.cell? ⟨g1, k, none⟩ = some (.pointer (some ⟨q.blk, 0, none⟩)) := own_cell hw.r.q (by unfold blks; rw [List.map_map, List.getElem?_map, hq]; rfl)
      have hkI : (k : Int) < ((blks s).length : Int) := by omega
      have facts : ∀ X, Only Nil wr X → X.cell? ⟨W, 1, none⟩ = some (.slice (some ⟨g1, 0, none⟩) (blks s).length c1) ∧ X.cell? ⟨W, 2, none⟩ = some (.pointer (some ⟨D, 0, none⟩)) ∧ X.cell? ⟨g1, k, none⟩ = some (.pointer (some ⟨q.blk, 0, none⟩)) ∧ W < X.heap.size ∧ g1 < X.heap.size ∧ Both B X A D s (refOf s Ls) := fun X ho => by
        have hx := hw.nil ho
        refine ⟨hx.cells.2.1, hx.cells.2.2.1, (ho.cell (p := ⟨g1, k, none⟩) hg1 (fun h => h)).trans hqc, hx.cells.2.2.2.2.2, Nat.lt_of_lt_of_le hg1 ho.size, hx.both⟩
      have Facts := Lib.hid facts
      have HAL := Lib.hid (hal B)
      have RAL := Lib.hid (ral B)
      have HFI := Lib.hid (hfi B)
      have RFI := Lib.hid (rfi B)
      have HLI := Lib.hid (hli B)
      have HDE := Lib.hid (hde B)
      have RDE := Lib.hid (rde B)
      have Hon := Lib.hid hon
      have HB0 := Lib.hid hw.both
      unfold ansO at HFI RFI
      clear hal ral hfi rfi hli hde rde facts hon hw k0 k3 kf hq hL
      go_wp2_with fail
      refine (HAL.out _ A D (refOf s Ls) HB0.out).mono ?_
      rintro e w1 ⟨v4, rfl, hr4, hf4, ho1⟩
      obtain ⟨A4, c4, e4, hc4⟩ := own_slice hr4.own
      subst e4
      obtain ⟨x1, x2, x3, x4, x5, hb1⟩ := Facts.out w1 ho1
      have O1 := Lib.hid ho1
      have HR4 := Lib.hid hr4
      have HF4 := Lib.hid hf4
      have HB1 := Lib.hid hb1
      clear ho1 hr4 hf4 hb1
      go_wp2_with fail
      refine (HAL.out _ A D (refOf s Ls) HB1.out).mono ?_
      rintro e w2 ⟨v5, rfl, hr5, hf5, ho2⟩
      obtain ⟨A5, c5, e5, hc5⟩ := own_slice hr5.own
      subst e5
      have o2 := O1.out.trans ho2 (fun _ _ h => h)
      clear x1 x2 x3 x4 x5
      obtain ⟨x1, x2, x3, x4, x5, hb2⟩ := Facts.out w2 o2
      have O2 := Lib.hid o2
      have O12 := Lib.hid ho2
      have HR5 := Lib.hid hr5
      have HF5 := Lib.hid hf5
      have HB2 := Lib.hid hb2
      clear o2 ho2 hr5 hf5 hb2
      go_wp2_with fail
      refine (RAL.out _ A D s HB2.out).mono ?_
      rintro e w3 ⟨v6, rfl, hr6, hf6, ho3⟩
      obtain ⟨A6, c6, e6, hc6⟩ := own_slice hr6.own
      subst e6
      have o3 := O2.out.trans ho3 (fun _ _ h => h)
      clear x1 x2 x3 x4 x5
      obtain ⟨x1, x2, x3, x4, x5, hb3⟩ := Facts.out w3 o3
      have O3 := Lib.hid o3
      have O23 := Lib.hid ho3
      have HR6 := Lib.hid hr6
      have HF6 := Lib.hid hf6
      have HB3 := Lib.hid hb3
      clear o3 ho3 hr6 hf6 hb3
      go_wp2_with fail
      refine (HFI.out _ A D (refOf s Ls) HB3.out).mono ?_
      rintro e w4 ⟨rfl, ho4⟩
      have ho4' := ho4.alloc (.cells #[.int .u32 (hIx (wnt s.nodes L).head?), .int .u32 (hLf (wnt s.nodes L).head?)] tH)
      have hb7 := blk_new w4 (.cells #[.int .u32 (hIx (wnt s.nodes L).head?), .int .u32 (hLf (wnt s.nodes L).head?)] tH)
      have o4 := O3.out.trans ho4' (fun _ _ h => h)
      clear x1 x2 x3 x4 x5
      obtain ⟨x1, x2, x3, x4, x5, _⟩ := Facts.out w4 (O3.out.trans ho4 (fun _ _ h => h))
      obtain ⟨_, _, _, _, _, hb4⟩ := Facts.out _ o4
      have O4 := Lib.hid o4
      have O34 := Lib.hid ho4'
      have Hb7 := Lib.hid hb7
      have HB4 := Lib.hid hb4
      clear o4 ho4 ho4' hb7 hb4
      go_wp2_with fail
      refine (RFI.out _ A D s HB4.out).mono ?_
      rintro e w5 ⟨rfl, ho5⟩
      have hb7 := ho5.blk Hb7.out (fun h => h)
      have b7l := blk_lt hb7
      have ho5' := ho5.alloc (.cells #[.int .u32 (hIx (wnt s.nodes L).head?), .int .u32 (hLf (wnt s.nodes L).head?)] tH)
      have hb9 := blk_new w5 (.cells #[.int .u32 (hIx (wnt s.nodes L).head?), .int .u32 (hLf (wnt s.nodes L).head?)] tH)
      have hb7' := blk_alloc hb7 (.cells #[.int .u32 (hIx (wnt s.nodes L).head?), .int .u32 (hLf (wnt s.nodes L).head?)] tH)
      have o5 := O4.out.trans ho5' (fun _ _ h => h)
      clear x1 x2 x3 x4 x5
      have hr4 := HRow.nil' HR4.out (O12.out.trans (O23.out.trans (O34.out.trans ho5' (fun _ _ h => h)) (fun _ _ h => h)) (fun _ _ h => h))
      have hr5 := HRow.nil' HR5.out (O23.out.trans (O34.out.trans ho5' (fun _ _ h => h)) (fun _ _ h => h))
      have hr6 := HRow.nil' HR6.out (O34.out.trans ho5' (fun _ _ h => h))
      have s1 := O1.out.size
      have s2 := O12.out.size
      have s3 := O23.out.size
      have s4 := O34.out.size
      have f4 := fun b hb => HF4.out b hb
      have f5 := fun b hb => HF5.out b hb
      have f6 := fun b hb => HF6.out b hb
      have l4 := fun (b : Nat) (hb : (Value.slice A4 (wnt s.nodes L).length c4).ownBlock = some b) => own_lt HR4.out.own hb
      have hne45 : ∀ b, (Value.slice A5 (wnt s.nodes L).length c5).ownBlock = some b → (Value.slice A4 (wnt s.nodes L).length c4).ownBlock ≠ some b := fun b h5 h4 => by
        have h6 := l4 b h4
        have h7 := f5 b h5
        omega
      have hne46 : ∀ b, (Value.slice A6 (wnt s.nodes L).length c6).ownBlock = some b → (Value.slice A4 (wnt s.nodes L).length c4).ownBlock ≠ some b := fun b h5 h4 => by
        have h6 := l4 b h4
        have h7 := f6 b h5
        omega
      have HN45 := Lib.hid hne45
      have HN46 := Lib.hid hne46
      have HF4' := Lib.hid f4
      obtain ⟨x1, x2, x3, x4, x5, _⟩ := Facts.out w5 (O4.out.trans ho5 (fun _ _ h => h))
      clear f4 f5 f6 l4 hne45 hne46 s1 s2 s3 s4 ho5 ho5' hb7 O1 O2 O3 O4 O12 O23 O34 HR4 HR5 HR6 HF4 HF5 HF6 HB0 HB1 HB2 HB3 HB4 Hb7 HAL RAL HFI RFI
      go_wp2
      generalize hZ : w5.alloc (.cells #[.int .u32 (hIx (wnt s.nodes L).head?), .int .u32 (hLf (wnt s.nodes L).head?)] tH) = Z at *
      clear hZ x1 x2 x3 x4 x5
      obtain ⟨x1, x2, x3, x4, x5, hbZ⟩ := Facts.out Z o5
      have b9l := blk_lt hb9
      have b7l' := blk_lt hb7'
      have HSof := Lib.hid (fun (X : World) (hx : Only Nil Z X) => And.intro (Facts.out X (o5.trans hx (fun _ _ h => h))).1 (And.intro (Facts.out X (o5.trans hx (fun _ _ h => h))).2.1 (And.intro (Facts.out X (o5.trans hx (fun _ _ h => h))).2.2.1 (And.intro (blk_cell (hx.blk hb7' (fun h => h)) 0) (And.intro (blk_cell (hx.blk hb7' (fun h => h)) 1) (And.intro (blk_cell (hx.blk hb9 (fun h => h)) 0) (And.intro (blk_cell (hx.blk hb9 (fun h => h)) 1) hx)))))))
      have HZ4 := Lib.hid hr4
      have HZ5 := Lib.hid hr5
      have HZ6 := Lib.hid hr6
      have HBZ := Lib.hid hbZ
      have O5 := Lib.hid o5
      clear hr4 hr5 hr6 hbZ o5 hb7' hb9
      first | go_region_held3 (fun w' => w'.cell? ⟨W, 1, none⟩ = some (.slice (some ⟨g1, 0, none⟩) (blks s).length c1) ∧ w'.cell? ⟨W, 2, none⟩ = some (.pointer (some ⟨D, 0, none⟩)) ∧ w'.cell? ⟨g1, k, none⟩ = some (.pointer (some ⟨q.blk, 0, none⟩)) ∧ w'.cell? ⟨w4.heap.size, 0, none⟩ = some (.int .u32 (hIx (wnt s.nodes L).head?)) ∧ w'.cell? ⟨w4.heap.size, 1, none⟩ = some (.int .u32 (hLf (wnt s.nodes L).head?)) ∧ w'.cell? ⟨w5.heap.size, 0, none⟩ = some (.int .u32 (hIx (wnt s.nodes L).head?)) ∧ w'.cell? ⟨w5.heap.size, 1, none⟩ = some (.int .u32 (hLf (wnt s.nodes L).head?)) ∧ Only Nil Z w') (first | exact HSof.out _ (Only.refl _ _).drew | exact HSof.out _ ((Only.refl _ _).drewN _) | exact HSof.out _ (by assumption) | exact HSof.out _ (Only.drewN (by assumption) _) | exact HSof.out _ (Only.trans (S := Nil) (T := Nil) (by assumption) hog (fun _ _ h => h))) ((first | (go_at_call 25; go_split_ands; (refine (ArT.same_yes _ _ (wnt s.nodes L) _ (HRow.nil' HZ4.out (by assumption)) (HRow.nil' HZ6.out (by assumption)) hwl).mono ?_); rintro e wg ⟨rfl, nn, rfl⟩) | (go_at_call 88; go_split_ands; (refine (HLI.out _ A D (refOf s Ls) (HBZ.out.nil (by assumption))).mono ?_); rintro e wg ⟨rfl, rfl⟩) | (go_at_call 89; go_split_ands; (refine (HDE.out _ A D (refOf s Ls) (HBZ.out.nil (by assumption))).mono ?_); rintro e wg ⟨rfl, rfl⟩) | (go_at_call 90; go_split_ands; (refine (RDE.out _ A D s (HBZ.out.nil (by assumption))).mono ?_); rintro e wg ⟨rfl, hog⟩))) | fail
      have ozg : Only Nil Z wg := ((Only.refl Nil Z).drewN _).trans hog (fun _ _ h => h)
      have HG4 := Lib.hid (HRow.nil' HZ4.out ozg)
      have HG5 := Lib.hid (HRow.nil' HZ5.out ozg)
      have HG6 := Lib.hid (HRow.nil' HZ6.out ozg)
      have Hall := Lib.hid ((Hon.out.trans O5.out (fun _ _ h => h)).trans ozg (fun _ _ h => h))
      have hwon := Hon.out.size
      clear ozg hog HSof HLI HDE RDE HBZ HZ4 HZ5 HZ6 O5 Hon Facts x1 x2 x3 x4 x5 b9l b7l' hqc k1 k2 kl
      go_split_ands
      go_wp2
      go_loopg [11] ((wnt s.nodes L).length) (fun g v11 wi => ∃ p : Nat, p ≤ (wnt s.nodes L).length ∧ g = (wnt s.nodes L).length - p ∧ v11 = .int .i64 p ∧ Hid (∃ xs, wi.ownsRow 0 tH 2 (.slice A4 (wnt s.nodes L).length c4) (wnt s.nodes L).length xs) ∧ Hid (Only (fun b => (Value.slice A4 (wnt s.nodes L).length c4).ownBlock = some b) wg wi))
      case atStart => exact ⟨0, Nat.zero_le _, rfl, rfl, Lib.hid ⟨_, HG4.out.own⟩, Lib.hid (Only.refl _ _)⟩
      case round =>
        obtain ⟨p, hp, hgp, rfl, hxs, ho⟩ := hrel
        by_cases hpl : p < (wnt s.nodes L).length
        · obtain ⟨xs, hx⟩ := hxs.out
          obtain ⟨g4, c4', e4, hg4, _, _⟩ := own_row hx (by omega)
          injection e4 with e4 _ e5
          subst e4
          subst e5
          have hxl := hx.1
          have y0 : ∃ u, wr.cell? ⟨g4, p * 2, none⟩ = some u := ⟨_, own_cell hx (List.getElem?_eq_getElem (by omega))⟩
          have y1 : ∃ u, wr.cell? ⟨g4, p * 2 + 1, none⟩ = some u := ⟨_, own_cell hx (List.getElem?_eq_getElem (by omega))⟩
          obtain ⟨u0, y0⟩ := y0
          obtain ⟨u1, y1⟩ := y1
          have yf : ∀ o, wr.frozen? ⟨g4, o, none⟩ = false := fun o => hx.frozenAt o
          have hpI : (p : Int) < ((wnt s.nodes L).length : Int) := by omega
          have X2 := Lib.hid (own_set (own_set hx (p * 2) (.int .u32 9)) (p * 2 + 1) (.int .u32 9))
          clear hx hxs hxl
          go_wp2
          go_roundg ((wnt s.nodes L).length - (p + 1))
          case measure => omega
          case rel => exact ⟨p + 1, by omega, rfl, by go_num, Lib.hid ⟨_, X2.out⟩, Lib.hid ((ho.out.setCell (p := ⟨g4, p * 2, none⟩) (.inl rfl) _).setCell (p := ⟨g4, p * 2 + 1, none⟩) (.inl rfl) _)⟩
        · have hpI : ¬ ((p : Int) < ((wnt s.nodes L).length : Int)) := by omega
          have HS := Lib.hid (ArT.same_yes _ _ (wnt s.nodes L) wr (own_only HG5.out.own ho.out HN45.out) (own_only HG6.out.own ho.out HN46.out) hwl)
          go_wp2_with fail
          refine HS.out.mono ?_
          rintro e wq ⟨rfl, nn, rfl⟩
          go_wp2
          go_roundg ((blks s).length - (k + 1))
          case measure => omega
          case rel => exact ⟨k + 1, by omega, rfl, by go_num, (Hall.out.trans ho.out (fun b hb h => by have := HF4'.out b h; omega)).drewN _⟩
    · have he : k = (blks s).length := by omega
      subst he
      go_wp2
      go_ret
      exact ⟨rfl, hon⟩
end Al
end Go.Proofs.Ytnhedhmffgaohaa
