/- The walk of the law. -/
import Derived.Test.YtnhedhmffgaohaaDoorPbD
namespace Go.Proofs.YtnhedhmffgaohaaDoor
open Go.RowKit
namespace Pa
theorem go_bound : ∀ (L : List ByteArray) (n : Nat) (acc : List Sy), acc.length ≤ 400 → (∀ x ∈ acc, x.args.length ≤ 2048) → (rL (parseGo L n acc)).length ≤ 400 ∧ ∀ x ∈ rL (parseGo L n acc), x.args.length ≤ 2048
  | [], n, acc, h1, h2 => ⟨h1, h2⟩
  | l :: r, n, acc, h1, h2 => by
    cases hr : lineRes l acc.length with
    | skip => rw [go_skip hr]; exact go_bound r _ _ h1 h2
    | bad a c => rw [go_bad hr]; exact ⟨by simp [rL], fun x hx => by simp [rL] at hx⟩
    | good t o =>
      rw [go_good hr]
      obtain ⟨hk, hl, _, _, ho⟩ := lineRes_good hr
      refine go_bound r _ _ (by simp; omega) (fun x hx => ?_)
      rcases List.mem_append.1 hx with hx | hx
      · exact h2 x hx
      · simp only [List.mem_singleton] at hx
        subst hx
        simp only
        omega
theorem parse_bound (s : ByteArray) : (rL (parse s)).length ≤ 400 ∧ ∀ x ∈ rL (parse s), x.args.length ≤ 2048 := by
  unfold parse
  split
  · exact ⟨by simp [rL], fun x hx => by simp [rL] at hx⟩
  · exact go_bound _ _ _ (by simp) (fun x hx => by simp at hx)
theorem own_blk {w : World} {base g n c size : Nat} {e : TypeId} {xs : List Value} (h : w.ownsRow base e size (.slice (some ⟨g, 0, none⟩) n c) n xs) : ∃ cur, w.heap[g]? = some (.cells cur e (0, 0)) := by
  rcases h.2 with ⟨h1, _⟩ | ⟨g', c', cur, h1, _, h3, _⟩
  · cases h1
  · injection h1 with h1 _ _
    injection h1 with h1
    injection h1 with h1
    subst h1
    exact ⟨cur, h3⟩
def gr : ByteArray := ⟨#[103, 114, 111, 119, 110]⟩
theorem one_g : ∀ u ∈ [Value.string ⟨#[103, 114, 111, 119, 110]⟩, .string ⟨#[103, 114, 111, 119, 110]⟩, .string ⟨#[103, 114, 111, 119, 110]⟩], u.oneCell' = true := by
  intro u hu
  simp only [List.mem_cons, List.not_mem_nil, or_false, or_self] at hu
  subst hu
  rfl
set_option maxHeartbeats 3200000 in
set_option maxRecDepth 100000 in
theorem law_any (s : ByteArray) (w : World) (hv : Vars w) :
    Calls Tryd.prog 3 #[.string s] w fun e w' => e = .returned (.bool true) ∧ Only Nil w w' := by
  obtain ⟨i0, hi0, hz0, hz1, hz2⟩ := info_parts infoS
  obtain ⟨i1, hj0, hj1, hj2, hj3⟩ := info_parts infoSyB
  obtain ⟨hb1, hb2⟩ := parse_bound s
  have HV := Lib.hid hv
  have HB2 := Lib.hid hb2
  have HP := Lib.hid (fun W (ho : Only Nil w W) => parse_any s W (hv.only ho))
  have HQ := Lib.hid (fun W => parse_ref s W)
  generalize parse s = r at *
  clear hv hb2
  go_enter Tryd.func3, Tryd.ntmps3
  go_wp2_with fail
  refine (HP.out _ (Only.refl _ _)).mono ?_
  rintro e w1 ⟨hp, ho1⟩
  obtain ⟨va, ps, hps, rfl, hsa⟩ := pout hp
  have HO1 := Lib.hid ho1
  clear hp
  go_wp2_with fail
  refine (HP.out _ HO1.out).mono ?_
  rintro e w2 ⟨hp, ho2⟩
  obtain ⟨vb, qs, hqs, rfl, hsb⟩ := pout hp
  have HO2 := Lib.hid ho2
  clear hp
  go_wp2_with fail
  refine (HQ.out _).mono ?_
  rintro e w3 ⟨hp, ho3⟩
  obtain ⟨vc, rs, hrs, rfl, hsc⟩ := pout hp
  have HA3 := Lib.hid ((hsa.nil ho2).nil ho3)
  have HB3 := Lib.hid (hsb.nil ho3)
  have HC3 := Lib.hid (hsc.mono ho2.size)
  have HO3 := Lib.hid ((ho1.trans (S := Nil) ho2 (fun _ _ h => h)).trans (S := Nil) ho3 (fun _ _ h => h))
  have HAlt := Lib.hid (fun p (hp : p ∈ ps) b (hb : p.2.ownBlock = some b) => (⟨((hsa.args p hp).lt b hb).1, own_lt (hsa.args p hp) hb⟩ : w.heap.size ≤ b ∧ b < w1.heap.size))
  have HAr := Lib.hid (fun b (hb : va.ownBlock = some b) => (⟨(hsa.row.lt b hb).1, own_lt hsa.row hb⟩ : w.heap.size ≤ b ∧ b < w1.heap.size))
  have HE1 := Lib.hid (hps.trans hrs.symm)
  have HE2 := Lib.hid (hqs.trans hrs.symm)
  have hn4 : ps.length ≤ 400 := by have := congrArg List.length hps; simp at this; omega
  have HAn := Lib.hid (fun p (hp : p ∈ ps) => (HB2.out p.1 (by rw [← hps]; exact List.mem_map.2 ⟨p, hp, rfl⟩) : p.1.args.length ≤ 2048))
  have hw13 : w1.heap.size ≤ w3.heap.size := Nat.le_trans ho2.size ho3.size
  have hw01 := ho1.size
  clear hp ho1 ho2 ho3 hsa hsb hsc hps hqs hrs HP HQ HO1 HO2 HB2
  generalize (rN r : Int) = xn at *
  generalize (rA r : Int) = xa at *
  generalize (rC r : Int) = xc at *
  obtain ⟨Aa, ca, rfl, _⟩ := own_slice HA3.out.row
  go_wp2_with fail
  refine (sayings_same ps rs _ _ _ _ _ HA3.out HC3.out HE1.out).mono ?_
  rintro e w4 ⟨rfl, n4, rfl⟩
  go_wp2_with fail
  refine (sayings_same qs rs _ _ _ _ _ (HB3.out.nil ((Only.refl _ _).drewN n4)) (HC3.out.nil ((Only.refl _ _).drewN n4)) HE2.out).mono ?_
  rintro e w5 ⟨rfl, n5, rfl⟩
  have HO5 := Lib.hid ((HO3.out.drewN n4).drewN n5)
  have HA5 := Lib.hid ((HA3.out.nil ((Only.refl Nil w3).drewN n4)).nil ((Only.refl Nil (w3.drewN n4)).drewN n5))
  have HB5 := Lib.hid ((HB3.out.nil ((Only.refl Nil w3).drewN n4)).nil ((Only.refl Nil (w3.drewN n4)).drewN n5))
  have HC5 := Lib.hid ((HC3.out.nil ((Only.refl Nil w3).drewN n4)).nil ((Only.refl Nil (w3.drewN n4)).drewN n5))
  have hw15 : w1.heap.size ≤ ((w3.drewN n4).drewN n5).heap.size := hw13
  generalize (w3.drewN n4).drewN n5 = W at *
  clear HA3 HB3 HC3 HO3 hw13 HE1
  go_wp2
  go_loopg [15, 16] (ps.length) (fun m v15 v16 wr => ∃ i : Nat, i ≤ ps.length ∧ m = ps.length - i ∧ v15 = .int .i64 i ∧ Hid (AInv wr w.heap.size (.slice Aa ps.length ca) ps i 0) ∧ Hid (Only (fun b => w.heap.size ≤ b ∧ b < w1.heap.size) W wr))
  case atStart => exact ⟨0, by omega, by omega, rfl, Lib.hid (AInv.start HA5.out), Lib.hid (Only.refl _ _)⟩
  case round =>
    obtain ⟨i, hi, hm, rfl, HI, HOa⟩ := hrel
    by_cases hlt : i < ps.length
    · have hiI : (i : Int) < (ps.length : Int) := by omega
      have hx : ps[i]? = some ps[i] := List.getElem?_eq_getElem hlt
      have hAn := HAn.out ps[i] (List.mem_of_getElem? hx)
      have HAl := Lib.hid (HAlt.out ps[i] (List.mem_of_getElem? hx))
      have HX := Lib.hid hx
      generalize ps[i] = p at *
      obtain ⟨xs0, hx0, _⟩ := HI.out.args i p hx
      obtain ⟨Ap, cp, hpv, _⟩ := own_slice hx0
      clear hx hx0
      go_wp2
      go_loopg [16] (p.1.args.length) (fun m v16 wi => ∃ k : Nat, k ≤ p.1.args.length ∧ m = p.1.args.length - k ∧ v16 = .int .i64 k ∧ Hid (AInv wi w.heap.size (.slice Aa ps.length ca) ps i k) ∧ Hid (Only (fun b => w.heap.size ≤ b ∧ b < w1.heap.size) W wi))
      case atStart => exact ⟨0, by omega, by omega, rfl, HI, HOa⟩
      case round =>
        obtain ⟨k, hk, hm2, rfl, HI2, HOb⟩ := hrel
        obtain ⟨g, c', e1, hg, _, hgm⟩ := own_row HI2.out.row (by omega)
        injection e1 with e1 _ e1'
        subst e1
        subst e1'
        obtain ⟨_, _, a2⟩ := say_at HI2.out.row HX.out
        obtain ⟨xs, hxs, _⟩ := HI2.out.args i p HX.out
        rw [hpv] at a2
        by_cases hkl : k < p.1.args.length
        · have hkI : (k : Int) < (p.1.args.length : Int) := by omega
          obtain ⟨gp, cp', e2, hgp, hcp, hcm⟩ := own_row hxs (by omega)
          rw [hpv] at e2
          injection e2 with e2 _ e2'
          subst e2
          subst e2'
          rw [hpv] at hxs
          have hxl : xs.length = p.1.args.length := by have := hxs.1; omega
          have q0 := own_cell hxs (List.getElem?_eq_getElem (show k < xs.length by omega))
          obtain ⟨cur, hcur⟩ := own_blk hxs
          have qf := fun j => blk_frozen hcur j
          have HS := Lib.hid (HI2.out.step HA5.out.apart HX.out hpv hkl)
          have hT := HAl.out gp (by rw [hpv]; rfl)
          have HOc := Lib.hid (HOb.out.setCell (p := ⟨gp, k, none⟩) (.inl hT) over)
          unfold over at HS HOc
          clear hxs hcur
          go_wp2
          go_roundg (p.1.args.length - (k + 1))
          case measure => omega
          case rel => exact ⟨k + 1, by omega, rfl, by go_num, HS, HOc⟩
        · have HN := Lib.hid (HI2.out.next HX.out (by omega))
          have hkI : (p.1.args.length : Int) ≤ (k : Int) := by omega
          clear hxs
          go_wp2
          go_roundg (ps.length - (i + 1))
          case measure => omega
          case rel => exact ⟨i + 1, by omega, rfl, by go_num, HN, HOb⟩
    · have hie : i = ps.length := by omega
      subst hie
      clear hlt
      go_wp2
      go_loopg [17] (ps.length) (fun m v17 wq => ∃ i : Nat, i ≤ ps.length ∧ m = ps.length - i ∧ v17 = .int .i64 i ∧ Hid (AInv wq w.heap.size (.slice Aa ps.length ca) ps ps.length 0) ∧ Hid (Only (fun b => w.heap.size ≤ b ∧ b < w1.heap.size) W wq))
      case atStart => exact ⟨0, by omega, by omega, rfl, HI, HOa⟩
      case round =>
        obtain ⟨i, hi3, hm3, rfl, HI3, HO6⟩ := hrel
        by_cases hlt : i < ps.length
        · have hiI : (i : Int) < (ps.length : Int) := by omega
          have hx : ps[i]? = some ps[i] := List.getElem?_eq_getElem hlt
          have hAn := HAn.out ps[i] (List.mem_of_getElem? hx)
          have HAl := Lib.hid (HAlt.out ps[i] (List.mem_of_getElem? hx))
          have HX := Lib.hid hx
          generalize ps[i] = p at *
          obtain ⟨xs, hxs, hxd⟩ := HI3.out.args i p hx
          obtain ⟨Ap, cp, hpv, _⟩ := own_slice hxs
          have HXD := Lib.hid hxd
          have HXS := Lib.hid hxs
          obtain ⟨g, c', e1, hg, _, hgm⟩ := own_row HI3.out.row (by omega)
          injection e1 with e1 _ e1'
          subst e1
          subst e1'
          obtain ⟨_, _, a2⟩ := say_at HI3.out.row hx
          rw [hpv] at a2 hxs
          have HXV := Lib.hid hxs
          have hbase : w.heap.size ≤ wr.heap.size := by have := HO6.out.size; have := HO5.out.size; omega
          have hb3 : p.1.args.length + 3 ≤ 65536 := by omega
          clear hx hxs hxd
          go_wp2_with (at_builtin; (refine wpList_append_keeps rfl (.tmp 99) (.tmp 100) rfl rfl ⟨wr.heap.size, 0, none⟩ 3 3 rfl (Nat.le_trans hbase (by simp)) (HXV.out.alloc _) [.string ⟨#[103, 114, 111, 119, 110]⟩, .string ⟨#[103, 114, 111, 119, 110]⟩, .string ⟨#[103, 114, 111, 119, 110]⟩] rfl (World.news_of_block (blk_new' _ _ _ rfl)) one_g (by omega) hb3 ?_); intro v' w6 hx6 hg6)
          rw [← hpv] at hx6 hg6
          have hI6 : AInv w6 w.heap.size (.slice (some ⟨g, 0, none⟩) ps.length ca) ps ps.length 0 := (HI3.out.nil ((Only.refl _ _).alloc _)).grown HA5.out.apart HX.out (HXS.out.alloc _) HXD.out hg6 hx6
          have hO6 := (HO6.out.alloc _).grown hg6 (fun b hb _ => HAl.out b hb)
          go_roundg (ps.length - (i + 1))
          case measure => omega
          case rel => exact ⟨i + 1, by omega, rfl, by go_num, Lib.hid hI6, Lib.hid hO6⟩
        · clear HI HOa
          have hie : i = ps.length := by omega
          subst hie
          clear hlt
          go_wp2
          go_loopg [18, 19] (ps.length) (fun m v18 v19 wz => ∃ i : Nat, i ≤ ps.length ∧ m = ps.length - i ∧ v18 = .int .i64 i ∧ Hid (AInv wz w.heap.size (.slice Aa ps.length ca) ps ps.length 0) ∧ Hid (Only (fun b => w.heap.size ≤ b ∧ b < w1.heap.size) W wz))
          case atStart => exact ⟨0, by omega, by omega, rfl, HI3, HO6⟩
          case round =>
            obtain ⟨i, hi4, hm4, rfl, HI4, HO7⟩ := hrel
            clear HI3 HO6
            by_cases hlt : i < ps.length
            · have hiI : (i : Int) < (ps.length : Int) := by omega
              have hx : ps[i]? = some ps[i] := List.getElem?_eq_getElem hlt
              have HX := Lib.hid hx
              generalize ps[i] = p at *
              obtain ⟨xs0, hxs0, _⟩ := HI4.out.args i p hx
              obtain ⟨Ap, cp, hpv, _⟩ := own_slice hxs0
              obtain ⟨g, c', e1, hg, _, hgm⟩ := own_row HI4.out.row (by omega)
              injection e1 with e1 _ e1'
              subst e1
              subst e1'
              clear hx hxs0 hg
              go_wp2
              go_loopg [19] (p.1.args.length) (fun m v19 wy => ∃ k : Nat, k ≤ p.1.args.length ∧ m = p.1.args.length - k ∧ v19 = .int .i64 k ∧ Hid (AInv wy w.heap.size (.slice (some ⟨g, 0, none⟩) ps.length ca) ps ps.length 0) ∧ Hid (Only (fun b => w.heap.size ≤ b ∧ b < w1.heap.size) W wy))
              case atStart => exact ⟨0, by omega, by omega, rfl, HI4, HO7⟩
              case round =>
                obtain ⟨k, hk, hm5, rfl, HI5, HO8⟩ := hrel
                clear HI4 HO7
                obtain ⟨_, _, a2⟩ := say_at HI5.out.row HX.out
                obtain ⟨xs, hxs, hxd⟩ := HI5.out.args i p HX.out
                rw [hpv] at a2 hxs
                have hg : g < wr.heap.size := own_lt HI5.out.row rfl
                have HXV := Lib.hid hxs
                have HXD := Lib.hid hxd
                clear hxs hxd
                by_cases hkl : k < p.1.args.length
                · have hkI : (k : Int) < (p.1.args.length : Int) := by omega
                  obtain ⟨gp, cp', e2, hgp, hcp, hcm⟩ := own_row HXV.out (by omega)
                  injection e2 with e2 _ e2'
                  subst e2
                  subst e2'
                  have q0 := own_cell HXV.out (HXD.out k hkl (.inl hlt))
                  unfold over at q0
                  go_wp2
                  go_roundg (p.1.args.length - (k + 1))
                  case measure => omega
                  case rel => exact ⟨k + 1, by omega, rfl, by go_num, HI5, HO8⟩
                · have hkI : (p.1.args.length : Int) ≤ (k : Int) := by omega
                  go_wp2
                  go_roundg (ps.length - (i + 1))
                  case measure => omega
                  case rel => exact ⟨i + 1, by omega, rfl, by go_num, HI5, HO8⟩
            · have hie : i = ps.length := by omega
              subst hie
              clear hlt
              have HR := Lib.hid HI4.out.row
              have hkk : ps.length ≤ 1000000 := by omega
              have hbw : w.heap.size ≤ W.heap.size := HO5.out.size
              go_wp2_with (at_builtin; (refine wpList_append_lies _ rfl (.tmp 127) (.tmp 129) _ rfl w.heap.size tSy i1 _ 3 48 Tryd.underlying22 hj0 hj1 hj2 hj3 rfl (by omega) (.slice Aa ps.length ca) ps.length _ rfl (HR.out.alloc _) ⟨wr.heap.size, 0, none⟩ 1 1 [.int .i64 0, .string ⟨#[103, 114, 111, 119, 110]⟩, .slice none 0 0] rfl rfl (World.news_of_block (blk_new' _ _ _ rfl)) (one_3 _ _ _ _ _) (by omega) (bytesSy _ hkk).1 (bytesSy _ hkk).2 (Nat.le_trans hbw (HO7.out.alloc _).size) _ rfl ?_); intro g' cap w7 hown hgrow hat hlt1)
              have hO9 := (HO7.out.alloc (.cells #[.int .i64 0, .string ⟨#[103, 114, 111, 119, 110]⟩, .slice none 0 0] tSy)).grown hgrow (fun b hb _ => HAr.out b hb)
              have HBs := Lib.hid (HB5.out.only hO9 (fun b hb hT => by have := (HB5.out.row.lt b hb).1; omega) (fun p hp b hb hT => by have := ((HB5.out.args p hp).lt b hb).1; omega))
              have HCs := Lib.hid (HC5.out.only hO9 (fun b hb hT => by have := (HC5.out.row.lt b hb).1; omega) (fun p hp b hb hT => by have := ((HC5.out.args p hp).lt b hb).1; omega))
              have HO9 := Lib.hid (HO5.out.trans hO9 (fun b hb hT => by omega) : Only Nil w w7)
              refine (sayings_same qs rs _ _ _ _ _ HBs.out HCs.out HE2.out).mono ?_
              rintro e w8 ⟨rfl, n8, rfl⟩
              go_wp2
              go_ret
              exact ⟨rfl, HO9.out.drewN _⟩
end Pa
end Go.Proofs.YtnhedhmffgaohaaDoor
