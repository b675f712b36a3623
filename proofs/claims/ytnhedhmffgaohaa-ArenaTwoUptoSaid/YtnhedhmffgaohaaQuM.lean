/- Queues as plain lists: what stands in a queue, one behind the other, and what each call makes of it. No program in sight. -/
import Derived.Test.YtnhedhmffgaohaaArM
namespace Go.Proofs.Ytnhedhmffgaohaa

/-! ### The order of a queue -/
def hd (L : List Nat) (nx : Int) : Int := match L with | [] => nx | j :: _ => (j : Int)
def lst (L : List Nat) (p : Int) : Int := match L.getLast? with | some j => (j : Int) | none => p
@[simp] theorem hd_nil (nx : Int) : hd [] nx = nx := rfl
@[simp] theorem hd_cons (j : Nat) (L : List Nat) (nx : Int) : hd (j :: L) nx = (j : Int) := rfl
@[simp] theorem lst_nil (p : Int) : lst [] p = p := rfl
@[simp] theorem lst_snoc (L : List Nat) (j : Nat) (p : Int) : lst (L ++ [j]) p = (j : Int) := by simp [lst]
theorem lst_cons (j : Nat) (L : List Nat) (p : Int) : lst (j :: L) p = lst L (j : Int) := by
  rcases List.eq_nil_or_concat L with rfl | ⟨L', k, rfl⟩
  · rfl
  · rw [List.concat_eq_append, ← List.cons_append, lst_snoc, lst_snoc]
theorem hd_append (L M : List Nat) (nx : Int) : hd (L ++ M) nx = hd L (hd M nx) := by cases L <;> rfl
theorem lst_append (L M : List Nat) (p : Int) : lst (L ++ M) p = lst M (lst L p) := by
  rcases List.eq_nil_or_concat M with rfl | ⟨M', k, rfl⟩
  · simp
  · rw [List.concat_eq_append, ← List.append_assoc, lst_snoc, lst_snoc]
theorem hd_mem {L : List Nat} {nx : Int} (h : L ≠ []) : ∃ k ∈ L, hd L nx = (k : Int) := by
  cases L with
  | nil => exact absurd rfl h
  | cons j L => exact ⟨j, by simp, rfl⟩
theorem lst_mem {L : List Nat} {p : Int} (h : L ≠ []) : ∃ k ∈ L, lst L p = (k : Int) := by
  rcases List.eq_nil_or_concat L with rfl | ⟨L', k, rfl⟩
  · exact absurd rfl h
  · exact ⟨k, by simp, by rw [List.concat_eq_append, lst_snoc]⟩
theorem hd_ge {L : List Nat} : -1 ≤ hd L (-1) := by cases L <;> simp only [hd] <;> omega
theorem hd_neg {L : List Nat} (h : hd L (-1) = -1) : L = [] := by
  cases L with
  | nil => rfl
  | cons j L => simp only [hd] at h; omega
theorem lst_neg {L : List Nat} (h : lst L (-1) = -1) : L = [] := by
  rcases List.eq_nil_or_concat L with rfl | ⟨L', k, rfl⟩
  · rfl
  · rw [List.concat_eq_append, lst_snoc] at h; omega

/-- Places one behind the other, from the neighbour p ahead of them to the neighbour nx behind them. -/
def Lk (ns : List Nd) (b : Nat) : Int → List Nat → Int → Prop
  | _, [], _ => True
  | p, i :: L, nx => (∃ d, ns[i]? = some d ∧ d.taken = true ∧ d.inq = some b ∧ d.ahead = p ∧ d.back = hd L nx) ∧ Lk ns b (i : Int) L nx

theorem lk_append {ns : List Nd} {b : Nat} {p : Int} {L M : List Nat} {nx : Int} : Lk ns b p (L ++ M) nx ↔ Lk ns b p L (hd M nx) ∧ Lk ns b (lst L p) M nx := by
  induction L generalizing p with
  | nil => simp [Lk]
  | cons i L ih =>
    rw [List.cons_append, Lk, Lk, ih, lst_cons, hd_append, and_assoc]
theorem lk_frame {ns ns' : List Nd} {b : Nat} {p : Int} {L : List Nat} {nx : Int} (h : Lk ns b p L nx) (he : ∀ k ∈ L, ns'[k]? = ns[k]?) : Lk ns' b p L nx := by
  induction L generalizing p with
  | nil => trivial
  | cons i L ih =>
    obtain ⟨⟨d, h1, h2⟩, h3⟩ := h
    exact ⟨⟨d, (he i (by simp)).trans h1, h2⟩, ih h3 fun k hk => he k (by simp [hk])⟩
theorem lk_mem {ns : List Nd} {b : Nat} {p : Int} {L : List Nat} {nx : Int} (h : Lk ns b p L nx) {k : Nat} (hk : k ∈ L) : ∃ d, ns[k]? = some d ∧ d.taken = true ∧ d.inq = some b := by
  induction L generalizing p with
  | nil => simp at hk
  | cons i L ih =>
    obtain ⟨⟨d, h1, h2, h3, _⟩, h4⟩ := h
    rcases List.mem_cons.1 hk with rfl | hk
    · exact ⟨d, h1, h2, h3⟩
    · exact ih h4 hk
/-- Another neighbour behind. -/
theorem lk_back {ns ns' : List Nd} {b : Nat} {p : Int} {L : List Nat} {nx nx' : Int} (h : Lk ns b p L nx) (hnd : L.Nodup) (he : ∀ k : Nat, k ∈ L → (k : Int) ≠ lst L p → ns'[k]? = ns[k]?)
    (hl : ∀ (k : Nat) (d : Nd), (k : Int) = lst L p → k ∈ L → ns[k]? = some d → ∃ d', ns'[k]? = some d' ∧ d'.taken = d.taken ∧ d'.inq = d.inq ∧ d'.ahead = d.ahead ∧ d'.back = nx') : Lk ns' b p L nx' := by
  rcases List.eq_nil_or_concat L with rfl | ⟨L', k, rfl⟩
  · trivial
  · simp only [List.concat_eq_append] at *
    rw [lk_append] at h ⊢
    obtain ⟨h1, ⟨d, h2, h3, h4, h5, h6⟩, _⟩ := h
    rw [List.nodup_append] at hnd
    refine ⟨lk_frame h1 fun j hj => he j (by simp [hj]) ?_, ⟨?_, trivial⟩⟩
    · rw [lst_snoc]
      intro e
      exact hnd.2.2 j hj k (by simp) (by omega)
    · obtain ⟨d', e1, e2, e3, e4, e5⟩ := hl k d (by rw [lst_snoc]) (by simp) h2
      exact ⟨d', e1, e2.trans h3, e3.trans h4, e4.trans h5, e5⟩
/-- Another neighbour ahead. -/
theorem lk_front {ns ns' : List Nd} {b : Nat} {p p' : Int} {L : List Nat} {nx : Int} (h : Lk ns b p L nx) (hnd : L.Nodup) (he : ∀ k : Nat, k ∈ L → (k : Int) ≠ hd L nx → ns'[k]? = ns[k]?)
    (hl : ∀ (k : Nat) (d : Nd), (k : Int) = hd L nx → k ∈ L → ns[k]? = some d → ∃ d', ns'[k]? = some d' ∧ d'.taken = d.taken ∧ d'.inq = d.inq ∧ d'.ahead = p' ∧ d'.back = d.back) : Lk ns' b p' L nx := by
  cases L with
  | nil => trivial
  | cons k L =>
    obtain ⟨⟨d, h2, h3, h4, h5, h6⟩, h1⟩ := h
    rw [List.nodup_cons] at hnd
    refine ⟨?_, lk_frame h1 fun j hj => he j (by simp [hj]) ?_⟩
    · obtain ⟨d', e1, e2, e3, e4, e5⟩ := hl k d rfl (by simp) h2
      exact ⟨d', e1, e2.trans h3, e3.trans h4, e4, e5.trans h6⟩
    · intro e
      simp only [hd_cons] at e
      exact hnd.1 (by have : j = k := by omega
                      exact this ▸ hj)

def alive (ns : List Nd) (i : Nat) : Bool := match ns[i]? with | some d => !d.dead | none => false
theorem alive_at {ns : List Nd} {i : Nat} {d : Nd} (h : ns[i]? = some d) : alive ns i = !d.dead := by simp [alive, h]

/-- The first place of L that is not dead; -1: none. -/
def firstLive (ns : List Nd) (L : List Nat) : Int := match L.find? (alive ns) with | some i => (i : Int) | none => -1
@[simp] theorem firstLive_nil (ns : List Nd) : firstLive ns [] = -1 := rfl
theorem firstLive_cons (ns : List Nd) (i : Nat) (L : List Nat) : firstLive ns (i :: L) = if alive ns i = true then (i : Int) else firstLive ns L := by
  unfold firstLive
  rw [List.find?_cons]
  cases alive ns i <;> simp

/-- A queue holds the places L. -/
structure QOk (ns : List Nd) (q : Qu) (L : List Nat) : Prop where
  lk : Lk ns q.blk (-1) L (-1)
  first : q.first = hd L (-1)
  last : q.last = lst L (-1)
  nd : L.Nodup
  all : ∀ i d, ns[i]? = some d → d.inq = some q.blk → i ∈ L
  live : q.live = ((L.filter (alive ns)).length : Int)
  dead : q.dead = ((L.filter fun i => !alive ns i).length : Int)

theorem QOk.frame {ns ns' : List Nd} {q : Qu} {L : List Nat} (h : QOk ns q L) (he : ∀ k ∈ L, ns'[k]? = ns[k]?) (hi : ∀ (i : Nat) (d' : Nd), ns'[i]? = some d' → d'.inq = some q.blk → ∃ d, ns[i]? = some d ∧ d.inq = some q.blk) : QOk ns' q L := by
  have ha : ∀ k ∈ L, alive ns' k = alive ns k := fun k hk => by unfold alive; rw [he k hk]
  refine ⟨lk_frame h.lk he, h.first, h.last, h.nd, fun i d hd hq => ?_, ?_, ?_⟩
  · obtain ⟨d0, h1, h2⟩ := hi i d hd hq
    exact h.all i d0 h1 h2
  · rw [h.live, List.filter_congr ha]
  · rw [h.dead, List.filter_congr (p := fun i => !alive ns i) (q := fun i => !alive ns' i) (fun k hk => by rw [ha k hk])]

/-! ### What 'out', 'Push' and the others make of the places -/
/-- What 'out' makes of the neighbours. -/
def setB (ns : List Nd) (a : Int) (v : Int) : List Nd := match ns[a.toNat]? with | some d => if a < 0 then ns else ns.set a.toNat { d with back := v } | none => ns
def setA (ns : List Nd) (a : Int) (v : Int) : List Nd := match ns[a.toNat]? with | some d => if a < 0 then ns else ns.set a.toNat { d with ahead := v } | none => ns
def outN (ns : List Nd) (i : Nat) (d : Nd) : List Nd := (setA (setB ns d.ahead d.back) d.back d.ahead).set i { d with inq := none }
def outQ (q : Qu) (d : Nd) : Qu := { q with first := if d.ahead = -1 then d.back else q.first, last := if d.back = -1 then d.ahead else q.last, live := if d.dead = true then q.live else q.live - 1, dead := if d.dead = true then q.dead - 1 else q.dead }
theorem setB_no (ns : List Nd) (v : Int) : setB ns (-1) v = ns := by unfold setB; split <;> simp
theorem setA_no (ns : List Nd) (v : Int) : setA ns (-1) v = ns := by unfold setA; split <;> simp
theorem setB_at {ns : List Nd} {a : Nat} {d : Nd} (v : Int) (h : ns[a]? = some d) : setB ns (a : Int) v = ns.set a { d with back := v } := by unfold setB; simp [h]; omega
theorem setA_at {ns : List Nd} {a : Nat} {d : Nd} (v : Int) (h : ns[a]? = some d) : setA ns (a : Int) v = ns.set a { d with ahead := v } := by unfold setA; simp [h]; omega
def pushD (q : Qu) (d : Nd) : Nd := { d with inq := some q.blk, dead := false, ahead := q.last, back := -1 }
def pushN (ns : List Nd) (i : Nat) (q : Qu) (d : Nd) : List Nd := setB (ns.set i (pushD q d)) q.last i
def pushQ (q : Qu) (i : Nat) : Qu := { q with first := if q.last = -1 then (i : Int) else q.first, last := i, live := q.live + 1 }
def markN (ns : List Nd) (i : Nat) (d : Nd) : List Nd := ns.set i { d with dead := true }
def markQ (q : Qu) : Qu := { q with live := q.live - 1, dead := q.dead + 1 }

theorem setB_get (ns : List Nd) (a v : Int) (k : Nat) : (setB ns a v)[k]? = if (k : Int) = a then (ns[k]?).map (fun d => { d with back := v }) else ns[k]? := by
  unfold setB
  cases h : ns[a.toNat]? with
  | none =>
    simp only
    split
    · rename_i e
      have : a.toNat = k := by omega
      rw [this] at h
      rw [h]; rfl
    · rfl
  | some d =>
    simp only
    split
    · rw [if_neg (by omega)]
    · split
      · rename_i e
        have : a.toNat = k := by omega
        rw [this] at h ⊢
        rw [List.getElem?_set_self (List.getElem?_eq_some_iff.1 h).1, h]; rfl
      · rw [List.getElem?_set_ne (by omega)]
theorem setA_get (ns : List Nd) (a v : Int) (k : Nat) : (setA ns a v)[k]? = if (k : Int) = a then (ns[k]?).map (fun d => { d with ahead := v }) else ns[k]? := by
  unfold setA
  cases h : ns[a.toNat]? with
  | none =>
    simp only
    split
    · rename_i e
      have : a.toNat = k := by omega
      rw [this] at h
      rw [h]; rfl
    · rfl
  | some d =>
    simp only
    split
    · rw [if_neg (by omega)]
    · split
      · rename_i e
        have : a.toNat = k := by omega
        rw [this] at h ⊢
        rw [List.getElem?_set_self (List.getElem?_eq_some_iff.1 h).1, h]; rfl
      · rw [List.getElem?_set_ne (by omega)]
@[simp] theorem setB_length (ns : List Nd) (a v : Int) : (setB ns a v).length = ns.length := by unfold setB; split <;> (try split) <;> simp
@[simp] theorem setA_length (ns : List Nd) (a v : Int) : (setA ns a v).length = ns.length := by unfold setA; split <;> (try split) <;> simp
@[simp] theorem outN_length (ns : List Nd) (i : Nat) (d : Nd) : (outN ns i d).length = ns.length := by simp [outN]
@[simp] theorem pushN_length (ns : List Nd) (i : Nat) (q : Qu) (d : Nd) : (pushN ns i q d).length = ns.length := by simp [pushN]
@[simp] theorem markN_length (ns : List Nd) (i : Nat) (d : Nd) : (markN ns i d).length = ns.length := by simp [markN]
theorem outN_get (ns : List Nd) (i : Nat) (d : Nd) (hi : i < ns.length) (k : Nat) :
    (outN ns i d)[k]? = if k = i then some { d with inq := none } else (ns[k]?).map fun e => { e with back := if (k : Int) = d.ahead then d.back else e.back, ahead := if (k : Int) = d.back then d.ahead else e.ahead } := by
  unfold outN
  split
  · rename_i e
    subst e
    rw [List.getElem?_set_self (by simpa using hi)]
  · rw [List.getElem?_set_ne (by omega), setA_get, setB_get]
    cases ns[k]? with
    | none => simp only [Option.map_none, ite_self]
    | some e =>
      by_cases h1 : (k : Int) = d.ahead
      · by_cases h2 : (k : Int) = d.back
        · simp only [if_pos h1, if_pos h2, Option.map_some]
        · simp only [if_pos h1, if_neg h2, Option.map_some]
      · by_cases h2 : (k : Int) = d.back
        · simp only [if_neg h1, if_pos h2, Option.map_some]
        · simp only [if_neg h1, if_neg h2, Option.map_some]
theorem outN_same (ns : List Nd) (i : Nat) (d : Nd) (hi : i < ns.length) {k : Nat} (h1 : k ≠ i) (h2 : (k : Int) ≠ d.ahead) (h3 : (k : Int) ≠ d.back) : (outN ns i d)[k]? = ns[k]? := by
  rw [outN_get ns i d hi, if_neg h1]
  cases ns[k]? with
  | none => rfl
  | some e => simp only [if_neg h2, if_neg h3, Option.map_some]

/-- What of a place is not the chain's. -/
def core (d : Nd) : List Value × Nat × Bool × Bool × Option Nat := (d.v, d.life, d.taken, d.dead, d.inq)
def coreOf (ns : List Nd) (k : Nat) : Option (List Value × Nat × Bool × Bool × Option Nat) := (ns[k]?).map core
theorem outN_core (ns : List Nd) (i : Nat) (d : Nd) (hi : i < ns.length) (k : Nat) : coreOf (outN ns i d) k = if k = i then some (d.v, d.life, d.taken, d.dead, none) else coreOf ns k := by
  unfold coreOf
  rw [outN_get ns i d hi]
  split
  · rfl
  · cases ns[k]? <;> rfl
theorem pushN_core (ns : List Nd) (i : Nat) (q : Qu) (d : Nd) (hi : i < ns.length) (k : Nat) : coreOf (pushN ns i q d) k = if k = i then some (d.v, d.life, d.taken, false, some q.blk) else coreOf ns k := by
  unfold coreOf pushN
  rw [setB_get]
  by_cases h : k = i
  · subst h
    rw [List.getElem?_set_self hi, if_pos rfl]
    split <;> rfl
  · rw [List.getElem?_set_ne (by omega), if_neg h]
    split
    · cases ns[k]? <;> rfl
    · rfl
theorem coreOf_some {ns : List Nd} {k : Nat} {d : Nd} (h : ns[k]? = some d) : coreOf ns k = some (core d) := by simp [coreOf, h]
theorem of_coreOf {ns : List Nd} {k : Nat} {x : List Value × Nat × Bool × Bool × Option Nat} (h : coreOf ns k = some x) : ∃ d, ns[k]? = some d ∧ core d = x := by
  unfold coreOf at h
  obtain ⟨d, h1, h2⟩ := Option.map_eq_some_iff.1 h
  exact ⟨d, h1, h2⟩
theorem alive_core (ns : List Nd) (k : Nat) : alive ns k = match coreOf ns k with | some x => !x.2.2.2.1 | none => false := by
  unfold alive coreOf
  cases ns[k]? <;> rfl

/-! ### out -/
theorem lk_at {ns : List Nd} {b : Nat} {L1 L2 : List Nat} {i : Nat} (h : Lk ns b (-1) (L1 ++ i :: L2) (-1)) {d : Nd} (hd' : ns[i]? = some d) : d.taken = true ∧ d.inq = some b ∧ d.ahead = lst L1 (-1) ∧ d.back = hd L2 (-1) := by
  rw [lk_append] at h
  obtain ⟨_, ⟨d', h1, h2⟩, _⟩ := h
  rw [hd'] at h1
  injection h1 with h1
  subst h1
  exact h2
theorem out_ok {ns : List Nd} {q : Qu} {L1 L2 : List Nat} {i : Nat} {d : Nd} (h : QOk ns q (L1 ++ i :: L2)) (hd' : ns[i]? = some d) : QOk (outN ns i d) (outQ q d) (L1 ++ L2) := by
  obtain ⟨ht, hq, ha, hb⟩ := lk_at h.lk hd'
  have hi : i < ns.length := (List.getElem?_eq_some_iff.1 hd').1
  have hnd := h.nd
  rw [List.nodup_append, List.nodup_cons] at hnd
  obtain ⟨n1, ⟨n2, n3⟩, n4⟩ := hnd
  have hi1 : i ∉ L1 := fun hm => n4 i hm i (by simp) rfl
  have hal : ∀ k, alive (outN ns i d) k = alive ns k := fun k => by
    rw [alive_core, alive_core, outN_core ns i d hi]
    by_cases e : k = i
    · subst e; rw [if_pos rfl, coreOf_some hd']; rfl
    · rw [if_neg e]
  have hlk := h.lk
  rw [lk_append] at hlk
  obtain ⟨l1, _, l2⟩ := hlk
  refine ⟨?_, ?_, ?_, ?_, ?_, ?_, ?_⟩
  · rw [lk_append]
    show Lk _ q.blk _ _ _ ∧ Lk _ q.blk _ _ _
    have x1 : ∀ k ∈ L1, (k : Int) ≠ hd L2 (-1) := fun k hk => by
      cases L2 with
      | nil => simp only [hd_nil]; omega
      | cons c L2 => simp only [hd_cons]; intro e; exact n4 k hk c (by simp) (by omega)
    have x2 : ∀ k ∈ L2, (k : Int) ≠ lst L1 (-1) := fun k hk => by
      rcases List.eq_nil_or_concat L1 with rfl | ⟨L', c, rfl⟩
      · simp only [lst_nil]; omega
      · rw [List.concat_eq_append, lst_snoc]
        intro e
        exact n4 c (by simp) k (by simp [hk]) (by omega)
    refine ⟨lk_back l1 n1 (fun k hk hne => ?_) (fun k e hk hkm he => ?_), lk_front l2 n3 (fun k hk hne => ?_) (fun k e hk hkm he => ?_)⟩
    · exact outN_same ns i d hi (fun e : k = i => hi1 (by rw [← e]; exact hk)) (by rw [ha]; exact hne) (by rw [hb]; exact x1 k hk)
    · rw [outN_get ns i d hi, if_neg (fun e : k = i => hi1 (by rw [← e]; exact hkm)), he, ha, hb]
      exact ⟨_, rfl, rfl, rfl, by simp only [if_neg (x1 k hkm)], by simp only [if_pos hk]⟩
    · exact outN_same ns i d hi (fun e : k = i => n2 (by rw [← e]; exact hk)) (by rw [ha]; exact x2 k hk) (by rw [hb]; exact hne)
    · rw [outN_get ns i d hi, if_neg (fun e : k = i => n2 (by rw [← e]; exact hkm)), he, ha, hb]
      exact ⟨_, rfl, rfl, rfl, by simp only [if_pos hk], by simp only [if_neg (x2 k hkm)]⟩
  · show (if d.ahead = -1 then d.back else q.first) = _
    rw [ha, hb, h.first]
    split
    · rename_i e
      rw [lst_neg e]; rfl
    · rename_i e
      cases L1 with
      | nil => exact absurd rfl e
      | cons c L => rfl
  · show (if d.back = -1 then d.ahead else q.last) = _
    rw [ha, hb, h.last]
    split
    · rename_i e
      rw [hd_neg e]; simp
    · rename_i e
      rcases List.eq_nil_or_concat L2 with rfl | ⟨L', c, rfl⟩
      · exact absurd rfl e
      · rw [List.concat_eq_append, ← List.append_assoc, lst_snoc, ← List.cons_append, ← List.append_assoc, lst_snoc]
  · rw [List.nodup_append]
    exact ⟨n1, n3, fun a ha b hb => n4 a ha b (by simp [hb])⟩
  · intro k e he hq'
    have h1 := outN_core ns i d hi k
    rw [coreOf_some he] at h1
    split at h1
    · rename_i hk
      injection h1 with h1
      have : e.inq = none := congrArg (fun x => x.2.2.2.2) h1
      rw [this] at hq'
      cases hq'
    · rename_i hk
      obtain ⟨e0, h2, h3⟩ := of_coreOf h1.symm
      have h4 : e0.inq = e.inq := congrArg (fun x => x.2.2.2.2) h3
      have := h.all k e0 h2 (h4.trans hq')
      simp at this ⊢
      rcases this with h | h | h
      · exact .inl h
      · exact absurd h hk
      · exact .inr h
  · show (if d.dead = true then q.live else q.live - 1) = _
    rw [h.live, List.filter_congr (p := alive (outN ns i d)) (q := alive ns) (fun k _ => hal k), List.filter_append, List.filter_append, List.filter_cons, alive_at hd']
    cases d.dead <;> simp <;> omega
  · show (if d.dead = true then q.dead - 1 else q.dead) = _
    rw [h.dead, List.filter_congr (p := fun k => !alive (outN ns i d) k) (q := fun k => !alive ns k) (fun k _ => by rw [hal k]), List.filter_append, List.filter_append, List.filter_cons, alive_at hd']
    cases d.dead <;> simp <;> omega
/-- .. and another queue stays. -/
theorem out_far {ns : List Nd} {q q' : Qu} {L1 L2 L' : List Nat} {i : Nat} {d : Nd} (h : QOk ns q (L1 ++ i :: L2)) (h' : QOk ns q' L') (hne : q'.blk ≠ q.blk) (hd' : ns[i]? = some d) : QOk (outN ns i d) q' L' := by
  obtain ⟨ht, hq, ha, hb⟩ := lk_at h.lk hd'
  have hi : i < ns.length := (List.getElem?_eq_some_iff.1 hd').1
  have hno : ∀ k ∈ L', k ∉ L1 ++ i :: L2 := fun k hk hm => by
    obtain ⟨e, h1, _, h2⟩ := lk_mem h'.lk hk
    obtain ⟨e', h3, _, h4⟩ := lk_mem h.lk hm
    rw [h1] at h3
    injection h3 with h3
    subst h3
    rw [h2] at h4
    injection h4 with h4
    exact hne h4
  refine h'.frame (fun k hk => ?_) (fun k e he hq' => ?_)
  · have hk' := hno k hk
    simp at hk'
    refine outN_same ns i d hi hk'.2.1 ?_ ?_
    · rw [ha]
      rcases List.eq_nil_or_concat L1 with rfl | ⟨L', c, rfl⟩
      · simp only [lst_nil]; omega
      · rw [List.concat_eq_append, lst_snoc]
        intro e
        apply hk'.1
        have : k = c := by omega
        simp [this]
    · rw [hb]
      cases L2 with
      | nil => simp only [hd_nil]; omega
      | cons c L2 =>
        simp only [hd_cons]
        intro e
        apply hk'.2.2
        have : k = c := by omega
        simp [this]
  · have h1 := outN_core ns i d hi k
    rw [coreOf_some he] at h1
    split at h1
    · injection h1 with h1
      have : e.inq = none := congrArg (fun x => x.2.2.2.2) h1
      rw [this] at hq'
      cases hq'
    · obtain ⟨e0, h2, h3⟩ := of_coreOf h1.symm
      have h4 : e0.inq = e.inq := congrArg (fun x => x.2.2.2.2) h3
      exact ⟨e0, h2, h4.trans hq'⟩

/-! ### Push -/
theorem push_at (ns : List Nd) (i : Nat) (q : Qu) (d : Nd) (hi : i < ns.length) (hl : q.last ≠ (i : Int)) : (pushN ns i q d)[i]? = some (pushD q d) := by
  unfold pushN
  rw [setB_get, List.getElem?_set_self hi, if_neg (fun e => hl e.symm)]
theorem push_get (ns : List Nd) (i : Nat) (q : Qu) (d : Nd) {k : Nat} (hk : k ≠ i) : (pushN ns i q d)[k]? = if (k : Int) = q.last then (ns[k]?).map (fun d => { d with back := (i : Int) }) else ns[k]? := by
  unfold pushN
  rw [setB_get, List.getElem?_set_ne (fun e => hk e.symm)]
theorem not_in {ns : List Nd} {q : Qu} {L : List Nat} {i : Nat} {d : Nd} (h : QOk ns q L) (hd' : ns[i]? = some d) (hq : d.inq ≠ some q.blk) : i ∉ L := fun hm => by
  obtain ⟨e, h1, _, h2⟩ := lk_mem h.lk hm
  rw [hd'] at h1
  injection h1 with h1
  subst h1
  exact hq h2
theorem push_ok {ns : List Nd} {q : Qu} {L : List Nat} {i : Nat} {d : Nd} (h : QOk ns q L) (hd' : ns[i]? = some d) (hq : d.inq = none) (ht : d.taken = true) : QOk (pushN ns i q d) (pushQ q i) (L ++ [i]) := by
  have hi : i < ns.length := (List.getElem?_eq_some_iff.1 hd').1
  have hni : i ∉ L := not_in h hd' (by rw [hq]; simp)
  have hne : ∀ k ∈ L, k ≠ i := fun k hk e => hni (e ▸ hk)
  have hl : q.last ≠ (i : Int) := by
    rw [h.last]
    rcases List.eq_nil_or_concat L with rfl | ⟨L', c, rfl⟩
    · simp only [lst_nil]; omega
    · rw [List.concat_eq_append, lst_snoc]
      intro e
      exact hni (by have : c = i := by omega
                    simp [this])
  have hal : ∀ k ∈ L, alive (pushN ns i q d) k = alive ns k := fun k hk => by
    rw [alive_core, alive_core, pushN_core ns i q d hi, if_neg (hne k hk)]
  refine ⟨?_, ?_, ?_, ?_, ?_, ?_, ?_⟩
  · rw [lk_append]
    show Lk _ q.blk _ _ _ ∧ Lk _ q.blk _ _ _
    refine ⟨lk_back h.lk h.nd (fun k hk hlk => ?_) (fun k e hk hkm he => ?_), ⟨pushD q d, push_at ns i q d hi hl, ht, rfl, h.last, rfl⟩, trivial⟩
    · rw [push_get ns i q d (hne k hk), if_neg (by rw [h.last]; exact hlk)]
    · rw [push_get ns i q d (hne k hkm), if_pos (by rw [h.last]; exact hk), he]
      exact ⟨_, rfl, rfl, rfl, rfl, rfl⟩
  · show (if q.last = -1 then (i : Int) else q.first) = _
    rw [h.last, h.first]
    split
    · rename_i e
      rw [lst_neg e]; rfl
    · rename_i e
      cases L with
      | nil => exact absurd rfl e
      | cons c L => rfl
  · rw [lst_snoc]; rfl
  · rw [List.nodup_append]
    refine ⟨h.nd, by simp, fun a ha b hb => ?_⟩
    simp at hb
    subst hb
    exact hne a ha
  · intro k e he hq'
    have h1 := pushN_core ns i q d hi k
    rw [coreOf_some he] at h1
    split at h1
    · rename_i hk; simp [hk]
    · obtain ⟨e0, h2, h3⟩ := of_coreOf h1.symm
      have h4 : e0.inq = e.inq := congrArg (fun x => x.2.2.2.2) h3
      have := h.all k e0 h2 (h4.trans hq')
      simp [this]
  · show q.live + 1 = _
    rw [h.live, List.filter_append, List.filter_congr (p := alive (pushN ns i q d)) (q := alive ns) hal]
    have : alive (pushN ns i q d) i = true := by rw [alive_at (push_at ns i q d hi hl)]; rfl
    simp [this]
  · show q.dead = _
    rw [h.dead, List.filter_append, List.filter_congr (p := fun k => !alive (pushN ns i q d) k) (q := fun k => !alive ns k) (fun k hk => by rw [hal k hk])]
    have : alive (pushN ns i q d) i = true := by rw [alive_at (push_at ns i q d hi hl)]; rfl
    simp [this]
theorem push_far {ns : List Nd} {q q' : Qu} {L L' : List Nat} {i : Nat} {d : Nd} (h : QOk ns q L) (h' : QOk ns q' L') (hne : q'.blk ≠ q.blk) (hd' : ns[i]? = some d) (hq : d.inq = none) : QOk (pushN ns i q d) q' L' := by
  have hi : i < ns.length := (List.getElem?_eq_some_iff.1 hd').1
  have hni : i ∉ L' := not_in h' hd' (by rw [hq]; simp)
  refine h'.frame (fun k hk => ?_) (fun k e he hq' => ?_)
  · rw [push_get ns i q d (fun e => hni (e ▸ hk)), if_neg]
    rw [h.last]
    rcases List.eq_nil_or_concat L with rfl | ⟨L0, c, rfl⟩
    · simp only [lst_nil]; omega
    · rw [List.concat_eq_append, lst_snoc]
      intro e
      obtain ⟨e1, h1, _, h2⟩ := lk_mem h'.lk hk
      obtain ⟨e2, h3, _, h4⟩ := lk_mem h.lk (k := c) (by simp)
      have : k = c := by omega
      subst this
      rw [h1] at h3
      injection h3 with h3
      subst h3
      rw [h2] at h4
      injection h4 with h4
      exact hne h4
  · have h1 := pushN_core ns i q d hi k
    rw [coreOf_some he] at h1
    split at h1
    · injection h1 with h1
      have h5 : e.inq = some q.blk := congrArg (fun x => x.2.2.2.2) h1
      rw [h5] at hq'
      injection hq' with hq'
      exact absurd hq'.symm hne
    · obtain ⟨e0, h2, h3⟩ := of_coreOf h1.symm
      have h4 : e0.inq = e.inq := congrArg (fun x => x.2.2.2.2) h3
      exact ⟨e0, h2, h4.trans hq'⟩

/-! ### Mark -/
theorem mark_ok {ns : List Nd} {q : Qu} {L : List Nat} {i : Nat} {d : Nd} (h : QOk ns q L) (hd' : ns[i]? = some d) (hm : i ∈ L) (hdd : d.dead = false) : QOk (markN ns i d) (markQ q) L := by
  have hi : i < ns.length := (List.getElem?_eq_some_iff.1 hd').1
  have hget : ∀ k, k ≠ i → (markN ns i d)[k]? = ns[k]? := fun k hk => List.getElem?_set_ne (fun e => hk e.symm)
  have hat : (markN ns i d)[i]? = some { d with dead := true } := List.getElem?_set_self hi
  obtain ⟨L1, L2, rfl⟩ := List.append_of_mem hm
  have hnd := h.nd
  rw [List.nodup_append, List.nodup_cons] at hnd
  obtain ⟨n1, ⟨n2, n3⟩, n4⟩ := hnd
  have hi1 : i ∉ L1 := fun hm => n4 i hm i (by simp) rfl
  have g1 : ∀ k ∈ L1, (markN ns i d)[k]? = ns[k]? := fun k hk => hget k (fun e => hi1 (e ▸ hk))
  have g2 : ∀ k ∈ L2, (markN ns i d)[k]? = ns[k]? := fun k hk => hget k (fun e => n2 (e ▸ hk))
  have a1 : ∀ k ∈ L1, alive (markN ns i d) k = alive ns k := fun k hk => by unfold alive; rw [g1 k hk]
  have a2 : ∀ k ∈ L2, alive (markN ns i d) k = alive ns k := fun k hk => by unfold alive; rw [g2 k hk]
  have ai : alive (markN ns i d) i = false := by rw [alive_at hat]; rfl
  have ai' : alive ns i = true := by rw [alive_at hd', hdd]; rfl
  refine ⟨?_, h.first, h.last, h.nd, ?_, ?_, ?_⟩
  · have := h.lk
    rw [lk_append] at this ⊢
    obtain ⟨l1, ⟨e, h1, h2⟩, l2⟩ := this
    rw [hd'] at h1
    injection h1 with h1
    subst h1
    exact ⟨lk_frame l1 g1, ⟨_, hat, h2⟩, lk_frame l2 g2⟩
  · intro k e he hq
    by_cases hk : k = i
    · subst hk; simp
    · rw [hget k hk] at he
      exact h.all k e he hq
  · show q.live - 1 = _
    rw [h.live, List.filter_append, List.filter_append, List.filter_cons, List.filter_cons, ai, ai', List.filter_congr (p := alive (markN ns i d)) (q := alive ns) a1, List.filter_congr (p := alive (markN ns i d)) (q := alive ns) a2]
    simp; omega
  · show q.dead + 1 = _
    rw [h.dead, List.filter_append, List.filter_append, List.filter_cons, List.filter_cons, ai, ai', List.filter_congr (p := fun k => !alive (markN ns i d) k) (q := fun k => !alive ns k) (fun k hk => by rw [a1 k hk]),
      List.filter_congr (p := fun k => !alive (markN ns i d) k) (q := fun k => !alive ns k) (fun k hk => by rw [a2 k hk])]
    simp; omega
/-- A place that stands in no queue (or stands in another one, and keeps that) is turned. -/
theorem set_far {ns : List Nd} {q : Qu} {L : List Nat} {i : Nat} {d d' : Nd} (h : QOk ns q L) (hd' : ns[i]? = some d) (hq : d.inq ≠ some q.blk) (hq' : d'.inq ≠ some q.blk) : QOk (ns.set i d') q L := by
  have hi : i < ns.length := (List.getElem?_eq_some_iff.1 hd').1
  have hni := not_in h hd' hq
  refine h.frame (fun k hk => List.getElem?_set_ne (fun e : i = k => hni (by rw [e]; exact hk))) (fun k e he hk => ?_)
  by_cases hki : i = k
  · subst hki
    rw [List.getElem?_set_self hi] at he
    injection he with he
    subst he
    exact absurd hk hq'
  · rw [List.getElem?_set_ne hki] at he
    exact ⟨e, he, hk⟩
/-- Another place. -/
theorem snoc_far {ns : List Nd} {q : Qu} {L : List Nat} {d' : Nd} (h : QOk ns q L) (hq' : d'.inq ≠ some q.blk) : QOk (ns ++ [d']) q L := by
  refine h.frame (fun k hk => ?_) (fun k e he hk => ?_)
  · obtain ⟨e, h1, _⟩ := lk_mem h.lk hk
    exact List.getElem?_append_left (List.getElem?_eq_some_iff.1 h1).1
  · by_cases hkl : k < ns.length
    · rw [List.getElem?_append_left hkl] at he
      exact ⟨e, he, hk⟩
    · rw [List.getElem?_append_right (by omega)] at he
      have : e = d' := by
        rcases List.getElem?_eq_some_iff.1 he with ⟨h1, h2⟩
        simp at h2
        exact h2.symm
      subst this
      exact absurd hk hq'

end Go.Proofs.Ytnhedhmffgaohaa
