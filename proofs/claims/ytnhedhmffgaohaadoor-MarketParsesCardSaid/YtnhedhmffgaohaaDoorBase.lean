/- Plain words on memory for all walks of this seat: 'Only S w w'' (nothing but the blocks of S, and new blocks, has turned); owned rows kept, stored into, cut; a list of things laid out in cells. No program in sight. -/
import Derived.WalkKit
import Derived.BigQuiet
import Derived.Deep.QuietTactic
import Derived.Deep.AppendLies
import Derived.Deep.Draws
import Derived.Lib.Hide
import Derived.StillTailTactics
import Derived.Maps.OwnOps
import Derived.Maps.Views
import Derived.LaidEqlPtr
import Derived.Lib.Builder
namespace Go.Proofs.YtnhedhmffgaohaaDoor
open Go.RowKit

/-- Nothing but the blocks of S, and new blocks, has turned. -/
structure Only (S : Nat → Prop) (w w' : World) : Prop where
  os : w'.os = w.os
  tape : w'.tape = w.tape
  output : w'.output = w.output
  size : w.heap.size ≤ w'.heap.size
  block : ∀ k, k < w.heap.size → ¬ S k → w'.heap[k]? = w.heap[k]?

section
variable {S T : Nat → Prop} {w w1 w2 : World}
theorem Only.refl (S : Nat → Prop) (w : World) : Only S w w := ⟨rfl, rfl, rfl, Nat.le_refl _, fun _ _ _ => rfl⟩
theorem Only.trans (h : Only S w w1) (k : Only T w1 w2) (hT : ∀ i, i < w.heap.size → T i → S i) : Only S w w2 :=
  ⟨k.os.trans h.os, k.tape.trans h.tape, k.output.trans h.output, Nat.le_trans h.size k.size,
   fun i hi hs => (k.block i (Nat.lt_of_lt_of_le hi h.size) (fun ht => hs (hT i hi ht))).trans (h.block i hi hs)⟩
theorem Only.mono (h : Only S w w1) (hT : ∀ i, i < w.heap.size → S i → T i) : Only T w w1 :=
  ⟨h.os, h.tape, h.output, h.size, fun i hi hs => h.block i hi (fun ht => hs (hT i hi ht))⟩
theorem Only.drew (h : Only S w w1) : Only S w w1.drew := ⟨h.os, h.tape, h.output, h.size, h.block⟩
theorem Only.drewN (h : Only S w w1) (n : Nat) : Only S w (w1.drewN n) := ⟨h.os, h.tape, h.output, h.size, h.block⟩
theorem Only.alloc (h : Only S w w1) (o : Obj) : Only S w (w1.alloc o) :=
  ⟨h.os, h.tape, h.output, Nat.le_trans h.size (by simp), fun i hi hs => (Below.heap_alloc w1 o i (Nat.lt_of_lt_of_le hi h.size)).trans (h.block i hi hs)⟩
theorem Only.setCell (h : Only S w w1) {p : Addr} (hp : S p.block ∨ w.heap.size ≤ p.block) (u : Value) : Only S w (w1.setCell p u) :=
  ⟨h.os, h.tape, h.output, by simpa [World.setCell] using h.size, fun i hi hs => (Below.heap_setCell w1 p u i (by
    rintro rfl
    rcases hp with hp | hp
    · exact hs hp
    · omega)).trans (h.block i hi hs)⟩
theorem Only.grown (h : Only S w w1) {row : Option Nat} (hg : w1.grownBy w2 row) (hr : ∀ k, row = some k → k < w.heap.size → S k) : Only S w w2 :=
  ⟨hg.os.trans h.os, hg.tape.trans h.tape, hg.output.trans h.output, Nat.le_trans h.size hg.size,
   fun i hi hs => (hg.block i (Nat.lt_of_lt_of_le hi h.size) (fun e => hs (hr i e.symm hi))).trans (h.block i hi hs)⟩
theorem Only.of_below (h : Below w.heap.size w w1) (S : Nat → Prop) : Only S w w1 := ⟨h.os, h.tape, h.output, h.size, fun i hi _ => h.block i hi⟩
theorem Only.below (h : Only S w w1) {B : Nat} (hB : B ≤ w.heap.size) (hS : ∀ k, k < B → ¬ S k) : Below B w w1 :=
  ⟨h.os, h.tape, h.output, h.size, fun i hi => h.block i (by omega) (hS i hi)⟩
theorem Only.cell (h : Only S w w1) {p : Addr} (hp : p.block < w.heap.size) (hs : ¬ S p.block) : w1.cell? p = w.cell? p := World.cell?_of_block (h.block p.block hp hs)
theorem Only.frozen (h : Only S w w1) {p : Addr} (hp : p.block < w.heap.size) (hs : ¬ S p.block) : w1.frozen? p = w.frozen? p := World.frozen?_of_block (h.block p.block hp hs)
theorem Only.blk (h : Only S w w1) {g : Nat} {o : Obj} (hb : w.heap[g]? = some o) (hs : ¬ S g) : w1.heap[g]? = some o :=
  (h.block g (Array.getElem?_eq_some_iff.1 hb).1 hs).trans hb
end

/-- Nothing of old memory has turned. -/
abbrev Nil (_ : Nat) : Prop := False
theorem Only.toBelow {w w1 : World} (h : Only Nil w w1) : Below w.heap.size w w1 := h.below (Nat.le_refl _) (fun _ _ hk => hk)

/-! ### Blocks known whole -/
section
variable {w w1 : World} {g : Nat} {t : TypeId} {cs : Array Value}
theorem blk_lt {o : Obj} (h : w.heap[g]? = some o) : g < w.heap.size := (Array.getElem?_eq_some_iff.1 h).1
theorem blk_cell (h : w.heap[g]? = some (.cells cs t (0, 0))) (i : Nat) : w.cell? ⟨g, i, none⟩ = cs[i]? := cell_of_row w g i cs t (0, 0) h
theorem blk_frozen (h : w.heap[g]? = some (.cells cs t (0, 0))) (i : Nat) : w.frozen? ⟨g, i, none⟩ = false := by simp [World.frozen?, h]
theorem blk_set (h : w.heap[g]? = some (.cells cs t (0, 0))) (i : Nat) (u : Value) : (w.setCell ⟨g, i, none⟩ u).heap[g]? = some (.cells (cs.setIfInBounds i u) t (0, 0)) := heap_setCell_same w g i cs t u h
theorem blk_far {o : Obj} (h : w.heap[g]? = some o) {p : Addr} (hp : g ≠ p.block) (u : Value) : (w.setCell p u).heap[g]? = some o := (Below.heap_setCell w p u g hp).trans h
theorem blk_alloc {o : Obj} (h : w.heap[g]? = some o) (o' : Obj) : (w.alloc o').heap[g]? = some o := (Below.heap_alloc w o' g (blk_lt h)).trans h
theorem blk_drew {o : Obj} (h : w.heap[g]? = some o) : w.drew.heap[g]? = some o := h
theorem blk_drewN {o : Obj} (h : w.heap[g]? = some o) (n : Nat) : (w.drewN n).heap[g]? = some o := h
theorem blk_new (w : World) (o : Obj) : (w.alloc o).heap[w.heap.size]? = some o := heap_alloc_new w o
theorem blk_new' (w : World) (o : Obj) (k : Nat) (hk : k = w.heap.size) : (w.alloc o).heap[k]? = some o := by rw [hk]; exact heap_alloc_new w o
theorem blk_grown {o : Obj} {row : Option Nat} (h : w.heap[g]? = some o) (hg : w.grownBy w1 row) (hne : row ≠ some g) : w1.heap[g]? = some o := (hg.block g (blk_lt h) (fun e => hne e.symm)).trans h
theorem blk_ne {g' : Nat} {t' : TypeId} {cs' : Array Value} (h : w.heap[g]? = some (.cells cs t (0, 0))) (h' : w.heap[g']? = some (.cells cs' t' (0, 0))) (hne : t ≠ t') : g ≠ g' := by
  rintro rfl
  rw [h] at h'
  injection h' with h'
  injection h' with _ ht
  exact hne ht
end

/-! ### Owned rows -/
section
variable {w w1 : World} {e : TypeId} {size n : Nat} {v : Value} {xs : List Value} {g : Nat} {t : TypeId} {cs : Array Value}
theorem own_slice {base : Nat} (h : w.ownsRow base e size v n xs) : ∃ A c, v = .slice A n c ∧ n ≤ c := by
  rcases h.2 with ⟨rfl, rfl⟩ | ⟨g, cap, cur, rfl, _, _, hnc, _⟩
  · exact ⟨_, _, rfl, Nat.le_refl _⟩
  · exact ⟨_, _, rfl, hnc⟩
/-- What owns something lies in a row of its own. -/
theorem own_row {base : Nat} (h : w.ownsRow base e size v n xs) (hn : 0 < n) : ∃ g c, v = .slice (some ⟨g, 0, none⟩) n c ∧ g < w.heap.size ∧ n ≤ c ∧ c ≤ 9223372036854775807 := by
  rcases h.2 with ⟨_, h0⟩ | ⟨g, cap, cur, rfl, hb, hg, hnc, hm, _⟩
  · omega
  · exact ⟨g, cap, rfl, blk_lt hg, hnc, by simpa [maxLen] using hm⟩
theorem own_nil (W : World) (base : Nat) (e : TypeId) (size : Nat) : W.ownsRow base e size (.slice none 0 0) 0 [] := ⟨by simp, .inl ⟨rfl, rfl⟩⟩
theorem own_lt {base : Nat} (h : w.ownsRow base e size v n xs) {k : Nat} (hk : v.ownBlock = some k) : k < w.heap.size := (h.lt k hk).2
theorem own_heap {base : Nat} {row : Option Nat} (h : w.ownsRow base e size v n xs) (hk : v.ownBlock = row) (hg : ∀ k, row = some k → w1.heap[k]? = w.heap[k]?) : w1.ownsRow base e size v n xs := by
  refine ⟨h.1, ?_⟩
  rcases h.2 with h2 | ⟨g, cap, cur, rfl, hb, hh, r⟩
  · exact .inl h2
  · exact .inr ⟨g, cap, cur, rfl, hb, (hg g (by rw [← hk]; rfl)).trans hh, r⟩
theorem own_only {base : Nat} {S : Nat → Prop} (h : w.ownsRow base e size v n xs) (ho : Only S w w1) (hs : ∀ k, v.ownBlock = some k → ¬ S k) : w1.ownsRow base e size v n xs :=
  own_heap h rfl fun k hk => ho.block k (own_lt h hk) (hs k hk)
theorem own_far {base : Nat} (h : w.ownsRow base e size v n xs) {p : Addr} (hp : v.ownBlock ≠ some p.block) (u : Value) : (w.setCell p u).ownsRow base e size v n xs :=
  own_heap h rfl fun k hk => Below.heap_setCell w p u k (fun e => hp (by rw [hk, e]))
theorem own_drewN {base : Nat} (h : w.ownsRow base e size v n xs) (k : Nat) : (w.drewN k).ownsRow base e size v n xs := h
theorem own_blk_ne {base : Nat} (h : w.ownsRow base e size v n xs) (hg : w.heap[g]? = some (.cells cs t (0, 0))) (hne : e ≠ t) : v.ownBlock ≠ some g := by
  rcases h.2 with ⟨rfl, _⟩ | ⟨g', cap, cur, rfl, _, hh, _⟩
  · simp [Value.ownBlock]
  · intro he
    have : g' = g := by simpa [Value.ownBlock] using he
    subst this
    exact blk_ne hh hg hne rfl
theorem own_own_ne {base base' : Nat} {e' : TypeId} {size' n' : Nat} {v' : Value} {xs' : List Value} (h : w.ownsRow base e size v n xs) (h' : w.ownsRow base' e' size' v' n' xs') (hne : e ≠ e') {k : Nat} (hk : v.ownBlock = some k) : v'.ownBlock ≠ some k := by
  rcases h.2 with ⟨rfl, _⟩ | ⟨g', cap, cur, rfl, _, hh, _⟩
  · simp [Value.ownBlock] at hk
  · have : g' = k := by simpa [Value.ownBlock] using hk
    subst this
    exact own_blk_ne h' hh (Ne.symm hne)
theorem own_block {g c : Nat} {base : Nat} (_ : w.ownsRow base e size (.slice (some ⟨g, 0, none⟩) n c) n xs) : (Value.slice (some ⟨g, 0, none⟩) n c).ownBlock = some g := rfl
theorem ob_ne {F g n c : Nat} (h : F ≠ g) : (Value.slice (some ⟨F, 0, none⟩) n c).ownBlock ≠ some g := fun e => h (by simpa [Value.ownBlock] using e)
theorem ob_ne' {F g n c : Nat} (h : (Value.slice (some ⟨F, 0, none⟩) n c).ownBlock ≠ some g) : F ≠ g := fun e => h (by rw [e]; rfl)
theorem own_cell {base c : Nat} (h : w.ownsRow base e size (.slice (some ⟨g, 0, none⟩) n c) n xs) {j : Nat} {u : Value} (hu : xs[j]? = some u) : w.cell? ⟨g, j, none⟩ = some u := by
  have hj : j < n * size := by rw [← h.1]; exact (List.getElem?_eq_some_iff.1 hu).1
  rw [h.cellAt j hj, hu]
theorem own_set {base c : Nat} (h : w.ownsRow base e size (.slice (some ⟨g, 0, none⟩) n c) n xs) (j : Nat) (u : Value) : (w.setCell ⟨g, j, none⟩ u).ownsRow base e size (.slice (some ⟨g, 0, none⟩) n c) n (xs.set j u) := (h.stored j u).1
/-- A cut 's[:m]' of a row that is owned. -/
theorem own_cut {base c m : Nat} {A : Option Addr} (h : w.ownsRow base e size (.slice A n c) n xs) (hm : m ≤ n) (hne : 0 < n) : w.ownsRow base e size (.slice A m c) m (xs.take (m * size)) := by
  refine ⟨?_, ?_⟩
  · rw [List.length_take, h.1]; exact Nat.min_eq_left (Nat.mul_le_mul_right _ hm)
  · rcases h.2 with ⟨h2, rfl⟩ | ⟨g, cap, cur, hv, hb, hh, hnc, hcm, hcs, ht⟩
    · omega
    · injection hv with h1 h2 h3
      subst h1; subst h3
      refine .inr ⟨g, _, cur, rfl, hb, hh, by omega, hcm, hcs, ?_⟩
      rw [← ht, List.take_take, Nat.min_eq_left (Nat.mul_le_mul_right _ hm)]
end

/-! ### Blocks told apart by their element types -/
/-- If block b is cells at all, then of type e. -/
def Ty (w : World) (b : Nat) (e : TypeId) : Prop := ∀ cs t, w.heap[b]? = some (.cells cs t (0, 0)) → t = e
section
variable {w w1 : World} {S : Nat → Prop} {base : Nat} {e : TypeId} {size n : Nat} {v : Value} {xs : List Value}
theorem own_ty (h : w.ownsRow base e size v n xs) {b : Nat} (hb : v.ownBlock = some b) : Ty w b e := by
  rcases h.2 with ⟨rfl, _⟩ | ⟨g, cap, cur, rfl, _, hh, _⟩
  · simp [Value.ownBlock] at hb
  · have : g = b := by simpa [Value.ownBlock] using hb
    subst this
    intro cs t ht
    rw [hh] at ht
    injection ht with ht
    injection ht with _ ht
    exact ht.symm
theorem blk_ty {g : Nat} {t : TypeId} {cs : Array Value} (h : w.heap[g]? = some (.cells cs t (0, 0))) : Ty w g t := by
  intro cs' t' h'
  rw [h] at h'
  injection h' with h'
  injection h' with _ h'
  exact h'.symm
theorem own_apart (h : w.ownsRow base e size v n xs) (ho : Only S w w1) (hs : ∀ b, S b → ∃ t, Ty w b t ∧ t ≠ e) : w1.ownsRow base e size v n xs := by
  refine own_only h ho fun k hk hS => ?_
  obtain ⟨t, ht, hne⟩ := hs k hS
  rcases h.2 with ⟨rfl, _⟩ | ⟨g, cap, cur, rfl, _, hh, _⟩
  · simp [Value.ownBlock] at hk
  · have : g = k := by simpa [Value.ownBlock] using hk
    subst this
    exact hne (ht _ _ hh).symm
theorem blk_apart {g : Nat} {t : TypeId} {cs : Array Value} (h : w.heap[g]? = some (.cells cs t (0, 0))) (ho : Only S w w1) (hs : ∀ b, S b → ∃ t', Ty w b t' ∧ t' ≠ t) : w1.heap[g]? = some (.cells cs t (0, 0)) := by
  refine ho.blk h fun hS => ?_
  obtain ⟨t', ht, hne⟩ := hs g hS
  exact hne (ht _ _ h).symm
end
/-- Only, of one row, or of one block. -/
def Row (v : Value) (b : Nat) : Prop := v.ownBlock = some b
theorem Only.row {w w1 w2 : World} {S : Nat → Prop} {v : Value} (h : Only S w w1) (hg : w1.grownBy w2 v.ownBlock) : Only (fun b => S b ∨ Row v b) w w2 :=
  (h.mono (fun _ _ h => .inl h)).grown hg fun _ hk _ => .inr hk

/-! ### Two pointers that differ -/
theorem run_neq_ptr_other {P : Program} (w : World) {tp te : TypeId} {j : TypeInfo} {a b : Addr} {ca cb : Array Value} {ta tb : TypeId} (hp : P.underlying tp = some (.pointer te)) (hte : P.info? te = some j) (hsz : j.size ≠ 0)
    (hne : a ≠ b) (ha : w.heap[a.block]? = some (.cells ca ta (0, 0))) (hb : w.heap[b.block]? = some (.cells cb tb (0, 0))) :
    (binOp .neq tp (.pointer (some a)) (.pointer (some b))).run P w = .ok (.bool true) w := by
  have h : ∀ d : Nat, (Op.equalIn (d + 1) tp (.pointer (some a)) (.pointer (some b))).run P w = .ok false w := fun d => by
    simp [Op.equalIn, run_underlying hp, sizeOf, typeInfo, hte, hsz, run_sameAddr_other w hne ha hb]
  simp only [binOp]
  simp [Op.equal, Op.maxDepth, h 9999]

/-! ### Maps -/
theorem map_ty {H : Type} {P : Program} {k : TypeId} {R : Value → Option (DataW H × List MemPlace)} {b n : Nat} {D : DataW H} {w : World} (h : w.ownsMap P k R b n D) (e : TypeId) : Ty w b e := by
  intro cs t ht
  obtain ⟨es, clock, hb, _⟩ := h
  rw [hb] at ht
  cases ht

theorem map_only {H : Type} {P : Program} {k : TypeId} {R : Value → Option (DataW H × List MemPlace)} {b n : Nat} {D : DataW H} {S : Nat → Prop} {w w1 : World} (h : w.ownsMap P k R b n D) (ho : Only S w w1) (hs : ¬ S b) : w1.ownsMap P k R b n D := by
  obtain ⟨es, clock, hb, r⟩ := h
  exact ⟨es, clock, ho.blk hb hs, r⟩
theorem map_blk_ne {H : Type} {P : Program} {k : TypeId} {R : Value → Option (DataW H × List MemPlace)} {b n : Nat} {D : DataW H} {w : World} {g : Nat} {t : TypeId} {cs : Array Value} {f : Nat × Nat} (h : w.ownsMap P k R b n D) (hg : w.heap[g]? = some (.cells cs t f)) : b ≠ g := by
  rintro rfl
  obtain ⟨es, clock, hb, _⟩ := h
  rw [hb] at hg
  cases hg
theorem map_own_ne {H : Type} {P : Program} {k : TypeId} {R : Value → Option (DataW H × List MemPlace)} {b n : Nat} {D : DataW H} {w : World} {base : Nat} {e : TypeId} {size m : Nat} {v : Value} {xs : List Value} (h : w.ownsMap P k R b n D) (ho : w.ownsRow base e size v m xs) : v.ownBlock ≠ some b := by
  rcases ho.2 with ⟨rfl, _⟩ | ⟨g', cap, cur, rfl, _, hh, _⟩
  · simp [Value.ownBlock]
  · intro he
    have : g' = b := by simpa [Value.ownBlock] using he
    subst this
    exact map_blk_ne h hh rfl

theorem box_after' {w w1 : World} {o : Obj} (ho : Only Nil (w.alloc o) w1) : w1.heap[w.heap.size]? = some o := ho.blk (blk_new w o) (fun h => h)

/-! ### A list of things, each laid out in m cells -/
section
variable {α : Type} {enc : α → List Value} {m : Nat}
theorem lay_length {l : List α} (h : ∀ a ∈ l, (enc a).length = m) : (l.flatMap enc).length = l.length * m := by
  induction l with
  | nil => simp
  | cons a l ih =>
    rw [List.flatMap_cons, List.length_append, h a (by simp), ih (fun a ha => h a (by simp [ha])), List.length_cons, Nat.add_mul, Nat.one_mul, Nat.add_comm]
theorem lay_get {l : List α} (h : ∀ a ∈ l, (enc a).length = m) {i k : Nat} {x : α} (hx : l[i]? = some x) (hk : k < m) : (l.flatMap enc)[i * m + k]? = (enc x)[k]? := by
  induction l generalizing i with
  | nil => simp at hx
  | cons a l ih =>
    have ha := h a (by simp)
    rw [List.flatMap_cons]
    cases i with
    | zero =>
      simp at hx
      subst hx
      rw [List.getElem?_append_left (by rw [ha]; omega)]
      simp
    | succ i =>
      rw [List.getElem?_append_right (by rw [ha]; rw [Nat.add_mul]; omega), ha]
      have e : (i + 1) * m + k - m = i * m + k := by rw [Nat.add_mul]; omega
      rw [e]
      exact ih (fun a ha => h a (by simp [ha])) (by simpa using hx)
theorem lay_set {l : List α} (h : ∀ a ∈ l, (enc a).length = m) {i k : Nat} {x y : α} {u : Value} (hx : l[i]? = some x) (hk : k < m) (hy : enc y = (enc x).set k u) :
    (l.flatMap enc).set (i * m + k) u = (l.set i y).flatMap enc := by
  induction l generalizing i with
  | nil => simp at hx
  | cons a l ih =>
    have ha := h a (by simp)
    rw [List.flatMap_cons]
    cases i with
    | zero =>
      simp at hx
      subst hx
      rw [List.set_append_left _ _ (by rw [ha]; omega)]
      simp [hy]
    | succ i =>
      rw [List.set_append_right _ _ (by rw [ha]; rw [Nat.add_mul]; omega), ha]
      have e : (i + 1) * m + k - m = i * m + k := by rw [Nat.add_mul]; omega
      rw [e, ih (fun a ha => h a (by simp [ha])) (by simpa using hx)]
      simp
/-- Several cells of one thing are stored. -/
theorem lay_sets {l : List α} (h : ∀ a ∈ l, (enc a).length = m) {i : Nat} {x y : α} (hx : l[i]? = some x) (us : List (Nat × Value)) (hk : ∀ p ∈ us, p.1 < m) (hy : enc y = us.foldl (fun c p => c.set p.1 p.2) (enc x)) :
    us.foldl (fun c p => c.set (i * m + p.1) p.2) (l.flatMap enc) = (l.set i y).flatMap enc := by
  obtain ⟨pre, post, rfl, hi⟩ : ∃ pre post, l = pre ++ x :: post ∧ pre.length = i := by
    obtain ⟨hlt, hx⟩ := List.getElem?_eq_some_iff.1 hx
    refine ⟨l.take i, l.drop (i + 1), ?_, by simp; omega⟩
    rw [← hx, List.getElem_cons_drop, List.take_append_drop]
  subst hi
  have hp : ∀ a ∈ pre, (enc a).length = m := fun a ha => h a (by simp [ha])
  have hxl : (enc x).length = m := h x (by simp)
  have key : ∀ (us : List (Nat × Value)) (c : List Value), c.length = m → (∀ p ∈ us, p.1 < m) →
      us.foldl (fun c p => c.set (pre.length * m + p.1) p.2) (pre.flatMap enc ++ (c ++ post.flatMap enc)) = pre.flatMap enc ++ (us.foldl (fun c p => c.set p.1 p.2) c ++ post.flatMap enc) := by
    intro us
    induction us with
    | nil => intro c _ _; rfl
    | cons p us ih =>
      intro c hc hus
      simp only [List.foldl_cons]
      have h1 := hus p (by simp)
      rw [List.set_append_right _ _ (by rw [lay_length hp]; omega), lay_length hp, Nat.add_sub_cancel_left, List.set_append_left _ _ (by omega)]
      exact ih _ (by simpa using hc) (fun q hq => hus q (by simp [hq]))
  rw [List.flatMap_append, List.flatMap_cons, key us _ hxl hk, ← hy]
  simp
theorem lay_snoc (l : List α) (a : α) : (l ++ [a]).flatMap enc = l.flatMap enc ++ enc a := by simp
theorem lay_take {l : List α} (h : ∀ a ∈ l, (enc a).length = m) (k : Nat) : (l.flatMap enc).take (k * m) = (l.take k).flatMap enc := by
  induction l generalizing k with
  | nil => simp
  | cons a l ih =>
    have ha := h a (by simp)
    cases k with
    | zero => simp
    | succ k =>
      rw [List.flatMap_cons, List.take_succ_cons, List.flatMap_cons, List.take_append, ha]
      rw [List.take_of_length_le (by rw [ha, Nat.add_mul]; omega)]
      have e : (k + 1) * m - m = k * m := by rw [Nat.add_mul]; omega
      rw [e, ih (fun a ha => h a (by simp [ha]))]
end
theorem cast_mod32 (n : Nat) : ((n % 4294967296 : Nat) : Int) = (n : Int) % 4294967296 := by omega
theorem flat_one {α : Type} (f : α → Value) (l : List α) : l.flatMap (fun a => [f a]) = l.map f := by induction l <;> simp_all

theorem ret_int {k : IntKind} {a b : Int} (h : a = b) : Ending.returned (.int k a) = .returned (.int k b) := by rw [h]
end Go.Proofs.YtnhedhmffgaohaaDoor
