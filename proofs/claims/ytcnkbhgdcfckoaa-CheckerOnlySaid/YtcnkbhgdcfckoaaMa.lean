/- Plain words on memory for all walks of this seat: 'Only S w w'' (nothing but the blocks of S, and new blocks, has turned); owned rows kept, stored into, cut; a list of things laid out in cells. No program in sight. -/
import Derived.WalkKit
import Derived.BigQuiet
import Derived.Deep.QuietTactic
import Derived.Deep.AppendLies
import Derived.Deep.Draws
import Derived.Lib.Hide
import Derived.StillTailTactics
import Derived.Maps.OwnOps
import Derived.Maps.Views
import Derived.LaidEqlPtr
import Derived.Lib.Builder
import Derived.Test.YtcnkbhgdcfckoaaProg
import Derived.Deep.MidRow
import Derived.Outline
set_option linter.unusedVariables false
set_option linter.unusedSimpArgs false
namespace Go.Proofs.Ytcnkbhgdcfckoaa
open Go.RowKit

/-- Nothing but the blocks of S, and new blocks, has turned. -/
structure Only (S : Nat → Prop) (w w' : World) : Prop where
  os : w'.os = w.os
  tape : w'.tape = w.tape
  output : w'.output = w.output
  size : w.heap.size ≤ w'.heap.size
  block : ∀ k, k < w.heap.size → ¬ S k → w'.heap[k]? = w.heap[k]?

section
variable {S T : Nat → Prop} {w w1 w2 : World}
theorem Only.refl (S : Nat → Prop) (w : World) : Only S w w := ⟨rfl, rfl, rfl, Nat.le_refl _, fun _ _ _ => rfl⟩
theorem Only.trans (h : Only S w w1) (k : Only T w1 w2) (hT : ∀ i, i < w.heap.size → T i → S i) : Only S w w2 :=
  ⟨k.os.trans h.os, k.tape.trans h.tape, k.output.trans h.output, Nat.le_trans h.size k.size,
   fun i hi hs => (k.block i (Nat.lt_of_lt_of_le hi h.size) (fun ht => hs (hT i hi ht))).trans (h.block i hi hs)⟩
theorem Only.mono (h : Only S w w1) (hT : ∀ i, i < w.heap.size → S i → T i) : Only T w w1 :=
  ⟨h.os, h.tape, h.output, h.size, fun i hi hs => h.block i hi (fun ht => hs (hT i hi ht))⟩
theorem Only.drew (h : Only S w w1) : Only S w w1.drew := ⟨h.os, h.tape, h.output, h.size, h.block⟩
theorem Only.drewN (h : Only S w w1) (n : Nat) : Only S w (w1.drewN n) := ⟨h.os, h.tape, h.output, h.size, h.block⟩
theorem Only.alloc (h : Only S w w1) (o : Obj) : Only S w (w1.alloc o) :=
  ⟨h.os, h.tape, h.output, Nat.le_trans h.size (by simp), fun i hi hs => (Below.heap_alloc w1 o i (Nat.lt_of_lt_of_le hi h.size)).trans (h.block i hi hs)⟩
theorem Only.setCell (h : Only S w w1) {p : Addr} (hp : S p.block ∨ w.heap.size ≤ p.block) (u : Value) : Only S w (w1.setCell p u) :=
  ⟨h.os, h.tape, h.output, by simpa [World.setCell] using h.size, fun i hi hs => (Below.heap_setCell w1 p u i (by
    rintro rfl
    rcases hp with hp | hp
    · exact hs hp
    · omega)).trans (h.block i hi hs)⟩
theorem Only.grown (h : Only S w w1) {row : Option Nat} (hg : w1.grownBy w2 row) (hr : ∀ k, row = some k → k < w.heap.size → S k) : Only S w w2 :=
  ⟨hg.os.trans h.os, hg.tape.trans h.tape, hg.output.trans h.output, Nat.le_trans h.size hg.size,
   fun i hi hs => (hg.block i (Nat.lt_of_lt_of_le hi h.size) (fun e => hs (hr i e.symm hi))).trans (h.block i hi hs)⟩
theorem Only.of_below (h : Below w.heap.size w w1) (S : Nat → Prop) : Only S w w1 := ⟨h.os, h.tape, h.output, h.size, fun i hi _ => h.block i hi⟩
theorem Only.below (h : Only S w w1) {B : Nat} (hB : B ≤ w.heap.size) (hS : ∀ k, k < B → ¬ S k) : Below B w w1 :=
  ⟨h.os, h.tape, h.output, h.size, fun i hi => h.block i (by omega) (hS i hi)⟩
theorem Only.cell (h : Only S w w1) {p : Addr} (hp : p.block < w.heap.size) (hs : ¬ S p.block) : w1.cell? p = w.cell? p := World.cell?_of_block (h.block p.block hp hs)
theorem Only.frozen (h : Only S w w1) {p : Addr} (hp : p.block < w.heap.size) (hs : ¬ S p.block) : w1.frozen? p = w.frozen? p := World.frozen?_of_block (h.block p.block hp hs)
theorem Only.blk (h : Only S w w1) {g : Nat} {o : Obj} (hb : w.heap[g]? = some o) (hs : ¬ S g) : w1.heap[g]? = some o :=
  (h.block g (Array.getElem?_eq_some_iff.1 hb).1 hs).trans hb
end

/-- Nothing of old memory has turned. -/
abbrev Nil (_ : Nat) : Prop := False
theorem Only.toBelow {w w1 : World} (h : Only Nil w w1) : Below w.heap.size w w1 := h.below (Nat.le_refl _) (fun _ _ hk => hk)

/-! ### Blocks known whole -/
section
variable {w w1 : World} {g : Nat} {t : TypeId} {cs : Array Value}
theorem blk_lt {o : Obj} (h : w.heap[g]? = some o) : g < w.heap.size := (Array.getElem?_eq_some_iff.1 h).1
theorem blk_cell (h : w.heap[g]? = some (.cells cs t (0, 0))) (i : Nat) : w.cell? ⟨g, i, none⟩ = cs[i]? := cell_of_row w g i cs t (0, 0) h
theorem blk_frozen (h : w.heap[g]? = some (.cells cs t (0, 0))) (i : Nat) : w.frozen? ⟨g, i, none⟩ = false := by simp [World.frozen?, h]
theorem blk_set (h : w.heap[g]? = some (.cells cs t (0, 0))) (i : Nat) (u : Value) : (w.setCell ⟨g, i, none⟩ u).heap[g]? = some (.cells (cs.setIfInBounds i u) t (0, 0)) := heap_setCell_same w g i cs t u h
theorem blk_far {o : Obj} (h : w.heap[g]? = some o) {p : Addr} (hp : g ≠ p.block) (u : Value) : (w.setCell p u).heap[g]? = some o := (Below.heap_setCell w p u g hp).trans h
theorem blk_alloc {o : Obj} (h : w.heap[g]? = some o) (o' : Obj) : (w.alloc o').heap[g]? = some o := (Below.heap_alloc w o' g (blk_lt h)).trans h
theorem blk_drew {o : Obj} (h : w.heap[g]? = some o) : w.drew.heap[g]? = some o := h
theorem blk_drewN {o : Obj} (h : w.heap[g]? = some o) (n : Nat) : (w.drewN n).heap[g]? = some o := h
theorem blk_new (w : World) (o : Obj) : (w.alloc o).heap[w.heap.size]? = some o := heap_alloc_new w o
theorem blk_new' (w : World) (o : Obj) (k : Nat) (hk : k = w.heap.size) : (w.alloc o).heap[k]? = some o := by rw [hk]; exact heap_alloc_new w o
theorem blk_grown {o : Obj} {row : Option Nat} (h : w.heap[g]? = some o) (hg : w.grownBy w1 row) (hne : row ≠ some g) : w1.heap[g]? = some o := (hg.block g (blk_lt h) (fun e => hne e.symm)).trans h
theorem blk_ne {g' : Nat} {t' : TypeId} {cs' : Array Value} (h : w.heap[g]? = some (.cells cs t (0, 0))) (h' : w.heap[g']? = some (.cells cs' t' (0, 0))) (hne : t ≠ t') : g ≠ g' := by
  rintro rfl
  rw [h] at h'
  injection h' with h'
  injection h' with _ ht
  exact hne ht
end

/-! ### Owned rows -/
section
variable {w w1 : World} {e : TypeId} {size n : Nat} {v : Value} {xs : List Value} {g : Nat} {t : TypeId} {cs : Array Value}
theorem own_slice {base : Nat} (h : w.ownsRow base e size v n xs) : ∃ A c, v = .slice A n c ∧ n ≤ c := by
  rcases h.2 with ⟨rfl, rfl⟩ | ⟨g, cap, cur, rfl, _, _, hnc, _⟩
  · exact ⟨_, _, rfl, Nat.le_refl _⟩
  · exact ⟨_, _, rfl, hnc⟩
/-- What owns something lies in a row of its own. -/
theorem own_row {base : Nat} (h : w.ownsRow base e size v n xs) (hn : 0 < n) : ∃ g c, v = .slice (some ⟨g, 0, none⟩) n c ∧ g < w.heap.size ∧ n ≤ c ∧ c ≤ 9223372036854775807 := by
  rcases h.2 with ⟨_, h0⟩ | ⟨g, cap, cur, rfl, hb, hg, hnc, hm, _⟩
  · omega
  · exact ⟨g, cap, rfl, blk_lt hg, hnc, by simpa [maxLen] using hm⟩
theorem own_nil (W : World) (base : Nat) (e : TypeId) (size : Nat) : W.ownsRow base e size (.slice none 0 0) 0 [] := ⟨by simp, .inl ⟨rfl, rfl⟩⟩
theorem own_lt {base : Nat} (h : w.ownsRow base e size v n xs) {k : Nat} (hk : v.ownBlock = some k) : k < w.heap.size := (h.lt k hk).2
theorem own_heap {base : Nat} {row : Option Nat} (h : w.ownsRow base e size v n xs) (hk : v.ownBlock = row) (hg : ∀ k, row = some k → w1.heap[k]? = w.heap[k]?) : w1.ownsRow base e size v n xs := by
  refine ⟨h.1, ?_⟩
  rcases h.2 with h2 | ⟨g, cap, cur, rfl, hb, hh, r⟩
  · exact .inl h2
  · exact .inr ⟨g, cap, cur, rfl, hb, (hg g (by rw [← hk]; rfl)).trans hh, r⟩
theorem own_only {base : Nat} {S : Nat → Prop} (h : w.ownsRow base e size v n xs) (ho : Only S w w1) (hs : ∀ k, v.ownBlock = some k → ¬ S k) : w1.ownsRow base e size v n xs :=
  own_heap h rfl fun k hk => ho.block k (own_lt h hk) (hs k hk)
theorem own_far {base : Nat} (h : w.ownsRow base e size v n xs) {p : Addr} (hp : v.ownBlock ≠ some p.block) (u : Value) : (w.setCell p u).ownsRow base e size v n xs :=
  own_heap h rfl fun k hk => Below.heap_setCell w p u k (fun e => hp (by rw [hk, e]))
theorem own_drewN {base : Nat} (h : w.ownsRow base e size v n xs) (k : Nat) : (w.drewN k).ownsRow base e size v n xs := h
theorem own_blk_ne {base : Nat} (h : w.ownsRow base e size v n xs) (hg : w.heap[g]? = some (.cells cs t (0, 0))) (hne : e ≠ t) : v.ownBlock ≠ some g := by
  rcases h.2 with ⟨rfl, _⟩ | ⟨g', cap, cur, rfl, _, hh, _⟩
  · simp [Value.ownBlock]
  · intro he
    have : g' = g := by simpa [Value.ownBlock] using he
    subst this
    exact blk_ne hh hg hne rfl
theorem own_own_ne {base base' : Nat} {e' : TypeId} {size' n' : Nat} {v' : Value} {xs' : List Value} (h : w.ownsRow base e size v n xs) (h' : w.ownsRow base' e' size' v' n' xs') (hne : e ≠ e') {k : Nat} (hk : v.ownBlock = some k) : v'.ownBlock ≠ some k := by
  rcases h.2 with ⟨rfl, _⟩ | ⟨g', cap, cur, rfl, _, hh, _⟩
  · simp [Value.ownBlock] at hk
  · have : g' = k := by simpa [Value.ownBlock] using hk
    subst this
    exact own_blk_ne h' hh (Ne.symm hne)
theorem own_block {g c : Nat} {base : Nat} (_ : w.ownsRow base e size (.slice (some ⟨g, 0, none⟩) n c) n xs) : (Value.slice (some ⟨g, 0, none⟩) n c).ownBlock = some g := rfl
theorem ob_ne {F g n c : Nat} (h : F ≠ g) : (Value.slice (some ⟨F, 0, none⟩) n c).ownBlock ≠ some g := fun e => h (by simpa [Value.ownBlock] using e)
theorem ob_ne' {F g n c : Nat} (h : (Value.slice (some ⟨F, 0, none⟩) n c).ownBlock ≠ some g) : F ≠ g := fun e => h (by rw [e]; rfl)
theorem own_cell {base c : Nat} (h : w.ownsRow base e size (.slice (some ⟨g, 0, none⟩) n c) n xs) {j : Nat} {u : Value} (hu : xs[j]? = some u) : w.cell? ⟨g, j, none⟩ = some u := by
  have hj : j < n * size := by rw [← h.1]; exact (List.getElem?_eq_some_iff.1 hu).1
  rw [h.cellAt j hj, hu]
theorem own_set {base c : Nat} (h : w.ownsRow base e size (.slice (some ⟨g, 0, none⟩) n c) n xs) (j : Nat) (u : Value) : (w.setCell ⟨g, j, none⟩ u).ownsRow base e size (.slice (some ⟨g, 0, none⟩) n c) n (xs.set j u) := (h.stored j u).1
/-- A cut 's[:m]' of a row that is owned. -/
theorem own_cut {base c m : Nat} {A : Option Addr} (h : w.ownsRow base e size (.slice A n c) n xs) (hm : m ≤ n) (hne : 0 < n) : w.ownsRow base e size (.slice A m c) m (xs.take (m * size)) := by
  refine ⟨?_, ?_⟩
  · rw [List.length_take, h.1]; exact Nat.min_eq_left (Nat.mul_le_mul_right _ hm)
  · rcases h.2 with ⟨h2, rfl⟩ | ⟨g, cap, cur, hv, hb, hh, hnc, hcm, hcs, ht⟩
    · omega
    · injection hv with h1 h2 h3
      subst h1; subst h3
      refine .inr ⟨g, _, cur, rfl, hb, hh, by omega, hcm, hcs, ?_⟩
      rw [← ht, List.take_take, Nat.min_eq_left (Nat.mul_le_mul_right _ hm)]
end

/-! ### Blocks told apart by their element types -/
/-- If block b is cells at all, then of type e. -/
def Ty (w : World) (b : Nat) (e : TypeId) : Prop := ∀ cs t, w.heap[b]? = some (.cells cs t (0, 0)) → t = e
section
variable {w w1 : World} {S : Nat → Prop} {base : Nat} {e : TypeId} {size n : Nat} {v : Value} {xs : List Value}
theorem own_ty (h : w.ownsRow base e size v n xs) {b : Nat} (hb : v.ownBlock = some b) : Ty w b e := by
  rcases h.2 with ⟨rfl, _⟩ | ⟨g, cap, cur, rfl, _, hh, _⟩
  · simp [Value.ownBlock] at hb
  · have : g = b := by simpa [Value.ownBlock] using hb
    subst this
    intro cs t ht
    rw [hh] at ht
    injection ht with ht
    injection ht with _ ht
    exact ht.symm
theorem blk_ty {g : Nat} {t : TypeId} {cs : Array Value} (h : w.heap[g]? = some (.cells cs t (0, 0))) : Ty w g t := by
  intro cs' t' h'
  rw [h] at h'
  injection h' with h'
  injection h' with _ h'
  exact h'.symm
theorem own_apart (h : w.ownsRow base e size v n xs) (ho : Only S w w1) (hs : ∀ b, S b → ∃ t, Ty w b t ∧ t ≠ e) : w1.ownsRow base e size v n xs := by
  refine own_only h ho fun k hk hS => ?_
  obtain ⟨t, ht, hne⟩ := hs k hS
  rcases h.2 with ⟨rfl, _⟩ | ⟨g, cap, cur, rfl, _, hh, _⟩
  · simp [Value.ownBlock] at hk
  · have : g = k := by simpa [Value.ownBlock] using hk
    subst this
    exact hne (ht _ _ hh).symm
theorem blk_apart {g : Nat} {t : TypeId} {cs : Array Value} (h : w.heap[g]? = some (.cells cs t (0, 0))) (ho : Only S w w1) (hs : ∀ b, S b → ∃ t', Ty w b t' ∧ t' ≠ t) : w1.heap[g]? = some (.cells cs t (0, 0)) := by
  refine ho.blk h fun hS => ?_
  obtain ⟨t', ht, hne⟩ := hs g hS
  exact hne (ht _ _ h).symm
end
/-- Only, of one row, or of one block. -/
def Row (v : Value) (b : Nat) : Prop := v.ownBlock = some b
theorem Only.row {w w1 w2 : World} {S : Nat → Prop} {v : Value} (h : Only S w w1) (hg : w1.grownBy w2 v.ownBlock) : Only (fun b => S b ∨ Row v b) w w2 :=
  (h.mono (fun _ _ h => .inl h)).grown hg fun _ hk _ => .inr hk

/-! ### Two pointers that differ -/
theorem run_neq_ptr_other {P : Program} (w : World) {tp te : TypeId} {j : TypeInfo} {a b : Addr} {ca cb : Array Value} {ta tb : TypeId} (hp : P.underlying tp = some (.pointer te)) (hte : P.info? te = some j) (hsz : j.size ≠ 0)
    (hne : a ≠ b) (ha : w.heap[a.block]? = some (.cells ca ta (0, 0))) (hb : w.heap[b.block]? = some (.cells cb tb (0, 0))) :
    (binOp .neq tp (.pointer (some a)) (.pointer (some b))).run P w = .ok (.bool true) w := by
  have h : ∀ d : Nat, (Op.equalIn (d + 1) tp (.pointer (some a)) (.pointer (some b))).run P w = .ok false w := fun d => by
    simp [Op.equalIn, run_underlying hp, sizeOf, typeInfo, hte, hsz, run_sameAddr_other w hne ha hb]
  simp only [binOp]
  simp [Op.equal, Op.maxDepth, h 9999]

/-! ### Maps -/
theorem map_ty {H : Type} {P : Program} {k : TypeId} {R : Value → Option (DataW H × List MemPlace)} {b n : Nat} {D : DataW H} {w : World} (h : w.ownsMap P k R b n D) (e : TypeId) : Ty w b e := by
  intro cs t ht
  obtain ⟨es, clock, hb, _⟩ := h
  rw [hb] at ht
  cases ht

theorem map_only {H : Type} {P : Program} {k : TypeId} {R : Value → Option (DataW H × List MemPlace)} {b n : Nat} {D : DataW H} {S : Nat → Prop} {w w1 : World} (h : w.ownsMap P k R b n D) (ho : Only S w w1) (hs : ¬ S b) : w1.ownsMap P k R b n D := by
  obtain ⟨es, clock, hb, r⟩ := h
  exact ⟨es, clock, ho.blk hb hs, r⟩
theorem map_blk_ne {H : Type} {P : Program} {k : TypeId} {R : Value → Option (DataW H × List MemPlace)} {b n : Nat} {D : DataW H} {w : World} {g : Nat} {t : TypeId} {cs : Array Value} {f : Nat × Nat} (h : w.ownsMap P k R b n D) (hg : w.heap[g]? = some (.cells cs t f)) : b ≠ g := by
  rintro rfl
  obtain ⟨es, clock, hb, _⟩ := h
  rw [hb] at hg
  cases hg
theorem map_own_ne {H : Type} {P : Program} {k : TypeId} {R : Value → Option (DataW H × List MemPlace)} {b n : Nat} {D : DataW H} {w : World} {base : Nat} {e : TypeId} {size m : Nat} {v : Value} {xs : List Value} (h : w.ownsMap P k R b n D) (ho : w.ownsRow base e size v m xs) : v.ownBlock ≠ some b := by
  rcases ho.2 with ⟨rfl, _⟩ | ⟨g', cap, cur, rfl, _, hh, _⟩
  · simp [Value.ownBlock]
  · intro he
    have : g' = b := by simpa [Value.ownBlock] using he
    subst this
    exact map_blk_ne h hh rfl

theorem box_after' {w w1 : World} {o : Obj} (ho : Only Nil (w.alloc o) w1) : w1.heap[w.heap.size]? = some o := ho.blk (blk_new w o) (fun h => h)

/-! ### A list of things, each laid out in m cells -/
section
variable {α : Type} {enc : α → List Value} {m : Nat}
theorem lay_length {l : List α} (h : ∀ a ∈ l, (enc a).length = m) : (l.flatMap enc).length = l.length * m := by
  induction l with
  | nil => simp
  | cons a l ih =>
    rw [List.flatMap_cons, List.length_append, h a (by simp), ih (fun a ha => h a (by simp [ha])), List.length_cons, Nat.add_mul, Nat.one_mul, Nat.add_comm]
theorem lay_get {l : List α} (h : ∀ a ∈ l, (enc a).length = m) {i k : Nat} {x : α} (hx : l[i]? = some x) (hk : k < m) : (l.flatMap enc)[i * m + k]? = (enc x)[k]? := by
  induction l generalizing i with
  | nil => simp at hx
  | cons a l ih =>
    have ha := h a (by simp)
    rw [List.flatMap_cons]
    cases i with
    | zero =>
      simp at hx
      subst hx
      rw [List.getElem?_append_left (by rw [ha]; omega)]
      simp
    | succ i =>
      rw [List.getElem?_append_right (by rw [ha]; rw [Nat.add_mul]; omega), ha]
      have e : (i + 1) * m + k - m = i * m + k := by rw [Nat.add_mul]; omega
      rw [e]
      exact ih (fun a ha => h a (by simp [ha])) (by simpa using hx)
theorem lay_set {l : List α} (h : ∀ a ∈ l, (enc a).length = m) {i k : Nat} {x y : α} {u : Value} (hx : l[i]? = some x) (hk : k < m) (hy : enc y = (enc x).set k u) :
    (l.flatMap enc).set (i * m + k) u = (l.set i y).flatMap enc := by
  induction l generalizing i with
  | nil => simp at hx
  | cons a l ih =>
    have ha := h a (by simp)
    rw [List.flatMap_cons]
    cases i with
    | zero =>
      simp at hx
      subst hx
      rw [List.set_append_left _ _ (by rw [ha]; omega)]
      simp [hy]
    | succ i =>
      rw [List.set_append_right _ _ (by rw [ha]; rw [Nat.add_mul]; omega), ha]
      have e : (i + 1) * m + k - m = i * m + k := by rw [Nat.add_mul]; omega
      rw [e, ih (fun a ha => h a (by simp [ha])) (by simpa using hx)]
      simp
/-- Several cells of one thing are stored. -/
theorem lay_sets {l : List α} (h : ∀ a ∈ l, (enc a).length = m) {i : Nat} {x y : α} (hx : l[i]? = some x) (us : List (Nat × Value)) (hk : ∀ p ∈ us, p.1 < m) (hy : enc y = us.foldl (fun c p => c.set p.1 p.2) (enc x)) :
    us.foldl (fun c p => c.set (i * m + p.1) p.2) (l.flatMap enc) = (l.set i y).flatMap enc := by
  obtain ⟨pre, post, rfl, hi⟩ : ∃ pre post, l = pre ++ x :: post ∧ pre.length = i := by
    obtain ⟨hlt, hx⟩ := List.getElem?_eq_some_iff.1 hx
    refine ⟨l.take i, l.drop (i + 1), ?_, by simp; omega⟩
    rw [← hx, List.getElem_cons_drop, List.take_append_drop]
  subst hi
  have hp : ∀ a ∈ pre, (enc a).length = m := fun a ha => h a (by simp [ha])
  have hxl : (enc x).length = m := h x (by simp)
  have key : ∀ (us : List (Nat × Value)) (c : List Value), c.length = m → (∀ p ∈ us, p.1 < m) →
      us.foldl (fun c p => c.set (pre.length * m + p.1) p.2) (pre.flatMap enc ++ (c ++ post.flatMap enc)) = pre.flatMap enc ++ (us.foldl (fun c p => c.set p.1 p.2) c ++ post.flatMap enc) := by
    intro us
    induction us with
    | nil => intro c _ _; rfl
    | cons p us ih =>
      intro c hc hus
      simp only [List.foldl_cons]
      have h1 := hus p (by simp)
      rw [List.set_append_right _ _ (by rw [lay_length hp]; omega), lay_length hp, Nat.add_sub_cancel_left, List.set_append_left _ _ (by omega)]
      exact ih _ (by simpa using hc) (fun q hq => hus q (by simp [hq]))
  rw [List.flatMap_append, List.flatMap_cons, key us _ hxl hk, ← hy]
  simp
theorem lay_snoc (l : List α) (a : α) : (l ++ [a]).flatMap enc = l.flatMap enc ++ enc a := by simp
theorem lay_take {l : List α} (h : ∀ a ∈ l, (enc a).length = m) (k : Nat) : (l.flatMap enc).take (k * m) = (l.take k).flatMap enc := by
  induction l generalizing k with
  | nil => simp
  | cons a l ih =>
    have ha := h a (by simp)
    cases k with
    | zero => simp
    | succ k =>
      rw [List.flatMap_cons, List.take_succ_cons, List.flatMap_cons, List.take_append, ha]
      rw [List.take_of_length_le (by rw [ha, Nat.add_mul]; omega)]
      have e : (k + 1) * m - m = k * m := by rw [Nat.add_mul]; omega
      rw [e, ih (fun a ha => h a (by simp [ha]))]
end
theorem cast_mod32 (n : Nat) : ((n % 4294967296 : Nat) : Int) = (n : Int) % 4294967296 := by omega
theorem flat_one {α : Type} (f : α → Value) (l : List α) : l.flatMap (fun a => [f a]) = l.map f := by induction l <;> simp_all

theorem ret_int {k : IntKind} {a b : Int} (h : a = b) : Ending.returned (.int k a) = .returned (.int k b) := by rw [h]
end Go.Proofs.Ytcnkbhgdcfckoaa
namespace Go.Proofs.Ytcnkbhgdcfckoaa
open Go.RowKit
section
variable {ops : Array Oper} {rest : List Oper} {o : Oper} {a : Act} {w : World} {Q : Exit → Act → World → Prop}
/-- What an 'alloc' of type T lays. -/
def Lays (T : TypeId) (Z : Array Value) : Prop := ∀ W, (Instr.alloc T true (.tuple #[])).run Try.prog W = .ok (.pointer (some ⟨W.heap.size, 0, none⟩)) (W.alloc (.cells Z T))
theorem wpList_alloc_agg (hgd : o.guard = none) (T : TypeId) (ho : o.op = .alloc T) (Z : Array Value) (hz : Lays T Z)
    (h : wpList Try.prog ops Q rest (a.put o.dst (.pointer (some ⟨w.heap.size, 0, none⟩))) (w.alloc (.cells Z T))) : wpList Try.prog ops Q (o :: rest) a w :=
  wpList_plain hgd fun _ hK => by
    unfold Oper.wp execOp
    simp only [ho, Sem.run_bind, Sem.run_pure, Result.andThen_ok, hz w]
    exact hK _ _ h
theorem wpList_store_row (hgd : o.guard = none) (T : TypeId) (x y : Operand) (ho : o.op = .store T x y) (g : Nat) (hx : a.eval x = .pointer (some ⟨g, 0, none⟩)) (cs old : Array Value) (hy : a.eval y = .agg cs) (t : TypeId)
    (hg : w.heap[g]? = some (.cells old t (0, 0))) (hi : (Try.prog.info? T).map (·.size) = some cs.size) (hs : old.size = cs.size) (h1 : cs.all (·.oneCell') = true)
    (h : wpList Try.prog ops Q rest (a.put o.dst undef) (w.setRow g cs)) : wpList Try.prog ops Q (o :: rest) a w :=
  wpList_plain hgd fun _ hK => by
    unfold Oper.wp execOp
    have hr := run_storeVar_row (P := Try.prog) w g t T old cs hg hi hs h1
    simp only [ho, hx, hy, Instr.storeAt, Instr.sureAddr, Sem.run_bind, Sem.run_pure, Result.andThen_ok, hr]
    exact hK _ _ h
theorem setRow_alloc (W : World) (a b : Array Value) (t : TypeId) : (W.alloc (.cells a t)).setRow W.heap.size b = W.alloc (.cells b t) := by
  unfold World.setRow World.alloc
  congr 1
  apply Array.ext_getElem?
  intro k
  simp only [Array.getElem?_modify, Array.getElem?_push]
  by_cases h : W.heap.size = k
  · subst h; simp
  · rw [if_neg h, if_neg (fun e => h e.symm), if_neg (fun e => h e.symm)]
/-- A variable is made and stored at once: the block comes as it is stored. -/
theorem wpList_alloc_store {o2 : Oper} (hgd : o.guard = none) (T : TypeId) (ho : o.op = .alloc T) (p : Tmp) (hd : o.dst = some p) (Z : Array Value) (hz : Lays T Z)
    (hgd2 : o2.guard = none) (y : Operand) (ho2 : o2.op = .store T (.tmp p) y) (hd2 : o2.dst = none) (cs : Array Value)
    (hx : (a.put (some p) (.pointer (some ⟨w.heap.size, 0, none⟩))).eval (.tmp p) = .pointer (some ⟨w.heap.size, 0, none⟩))
    (hy : (a.put (some p) (.pointer (some ⟨w.heap.size, 0, none⟩))).eval y = .agg cs) (hi : (Try.prog.info? T).map (·.size) = some cs.size) (hs : Z.size = cs.size) (h1 : cs.all (·.oneCell') = true)
    (h : wpList Try.prog ops Q rest (a.put (some p) (.pointer (some ⟨w.heap.size, 0, none⟩))) (w.alloc (.cells cs T))) : wpList Try.prog ops Q (o :: o2 :: rest) a w := by
  refine wpList_alloc_agg hgd T ho Z hz ?_
  rw [hd]
  refine wpList_store_row hgd2 T (.tmp p) y ho2 w.heap.size hx cs Z hy T (heap_alloc_new w _) hi hs h1 ?_
  rw [setRow_alloc, hd2]
  exact h
theorem wpList_build_agg (hgd : o.guard = none) (T : TypeId) (parts : Array (Nat × Operand)) (ho : o.op = .build T parts) (vals : Array (Nat × Value)) (hv : parts.map (fun (i, x) => (i, a.eval x)) = vals) (v : Value)
    (hb : ∀ W, (Instr.build T vals).run Try.prog W = .ok v W) (h : wpList Try.prog ops Q rest (a.put o.dst v) w) : wpList Try.prog ops Q (o :: rest) a w :=
  wpList_plain hgd fun _ hK => by
    unfold Oper.wp execOp
    simp only [ho]
    rw [hv]
    simp only [Sem.run_bind, Sem.run_pure, Result.andThen_ok, hb w]
    exact hK _ _ h
end
theorem blk_setRow {w : World} {g : Nat} {t : TypeId} {cs : Array Value} (h : w.heap[g]? = some (.cells cs t (0, 0))) (c : Array Value) : (w.setRow g c).heap[g]? = some (.cells c t (0, 0)) := setRow_heap w g cs c t _ h
theorem blk_setRow_far {w : World} {g k : Nat} {o : Obj} (h : w.heap[k]? = some o) (hne : k ≠ g) (c : Array Value) : (w.setRow g c).heap[k]? = some o := (setRow_other w g k c hne).trans h
theorem Only.setRow {S : Nat → Prop} {w w1 : World} (h : Only S w w1) {g : Nat} (hg : S g ∨ w.heap.size ≤ g) (c : Array Value) : Only S w (w1.setRow g c) :=
  ⟨h.os, h.tape, h.output, by rw [size_setRow]; exact h.size, fun i hi hs => (setRow_other w1 g i c (fun e => by
    subst e
    rcases hg with hg | hg
    · exact hs hg
    · omega)).trans (h.block i hi hs)⟩
/-- Two results, the first an aggregate in a variable. -/
theorem results_agg_tmp {fn : Func} {p u : Tmp} {ty : TypeId} (h : fn.results = #[.cell p ty, .tmp u]) (tmps : Array Value) (w : World) (g : Nat) (t : TypeId) (cs : Array Value) (fr : Nat × Nat) (d : TypeDesc)
    (hp : tmps.getD p undef = .pointer (some ⟨g, 0, none⟩)) (x : Value) (hx : tmps.getD u undef = x) (hg : w.heap[g]? = some (.cells cs t fr))
    (hu : Try.prog.underlying ty = some d) (hd : d.isRow = true) (hi : (Try.prog.info? ty).map (·.size) = some cs.size) :
    (results fn tmps).run Try.prog w = .ok (.tuple #[.agg cs, x]) w := by
  have hl : (loadVar ty ⟨g, 0, none⟩).run Try.prog w = .ok (.agg cs) w := run_loadVar_row w g t ty cs fr d hg hu (by cases d <;> first | rfl | simp [TypeDesc.isRow] at hd) hi
  rw [results_cell_tmp h]
  simp only [hp, hx, asAddr, Sem.run_pure, Result.andThen_ok, hl]
end Go.Proofs.Ytcnkbhgdcfckoaa
namespace Go.Proofs.Ytcnkbhgdcfckoaa
open Go.RowKit
namespace Ck
abbrev tC : Nat := 79
abbrev tK : Nat := 54
abbrev tBk : Nat := 32
abbrev tR : Nat := 50
abbrev tE : Nat := 37
def fit (cap meet : Int) : Bool := decide (1 ≤ cap) && decide (cap ≤ 4096) && decide (0 ≤ meet) && decide (meet ≤ 3)
def bk0 (cap meet : Int) : Array Value := #[.int .i64 cap, .int .i64 meet, .slice none 0 0, .slice none 0 0, .int .u64 0, .int .u64 0]
def rk0 (cap meet : Int) : Array Value := #[.int .i64 cap, .int .i64 meet, .slice none 0 0, .slice none 0 0, .int .u64 0, .int .u64 0, .bool false,
  .int .u64 0, .int .u32 0, .int .i64 0, .int .i64 0, .int .u64 0, .int .u64 0, .int .u64 0, .int .i64 0, .bool false,
  .int .u64 0, .int .i64 0, .int .u64 0, .int .u64 0, .int .u64 0, .int .u32 0, .int .i64 0, .int .i64 0, .int .i64 0, .int .u64 0, .int .u64 0, .int .i64 0, .int .i64 0,
  .int .u64 0, .int .u64 0, .bool false, .bool false]
theorem fit_yes {cap meet : Int} (h : fit cap meet = true) : 1 ≤ cap ∧ cap ≤ 4096 ∧ 0 ≤ meet ∧ meet ≤ 3 := by
  unfold fit at h; simp at h; omega
theorem fit_no {cap meet : Int} (h : fit cap meet = false) : cap < 1 ∨ 4096 < cap ∨ meet < 0 ∨ 3 < meet := by
  unfold fit at h; simp at h; omega

set_option maxHeartbeats 400000 in
set_option maxRecDepth 100000 in
theorem config_any (cap meet : Int) (w : World) :
    Calls Try.prog 21 #[.agg #[.int .i64 cap, .int .i64 meet]] w fun e w' => e = .returned (.bool (fit cap meet)) ∧ Only Nil w w' := by
  have hq : (decide (1 ≤ cap) = true ∧ decide (cap ≤ 4096) = true ∧ decide (0 ≤ meet) = true) ∨ (decide (1 ≤ cap) = true ∧ decide (cap ≤ 4096) = true ∧ decide (0 ≤ meet) = false) ∨ (decide (1 ≤ cap) = true ∧ decide (cap ≤ 4096) = false) ∨ decide (1 ≤ cap) = false := by
    by_cases h1 : 1 ≤ cap <;> by_cases h2 : cap ≤ 4096 <;> by_cases h3 : 0 ≤ meet <;> simp [h1, h2, h3]
  unfold fit
  rcases hq with ⟨h1, h2, h3⟩ | ⟨h1, h2, h3⟩ | ⟨h1, h2⟩ | h1
  all_goals
    go_enter Try.func21, Try.ntmps21
    go_wp2
    try (go_quiet (fail); go_wp2)
    go_ret
    refine ⟨?_, ?_⟩
    · simp [*]
    · first | exact (Only.refl Nil w).alloc _ | exact ((Only.refl Nil w).alloc _).drewN _

theorem infoBk : (Try.prog.info? tBk).map (·.size) = some 6 := by kernel_rfl
theorem infoK : (Try.prog.info? tK).map (·.size) = some 33 := by kernel_rfl
theorem one_bk0 (cap meet : Int) : (bk0 cap meet).all (·.oneCell') = true := by kernel_rfl
theorem one_rk0 (cap meet : Int) : (rk0 cap meet).all (·.oneCell') = true := by kernel_rfl
set_option maxHeartbeats 400000 in
set_option maxRecDepth 100000 in
theorem new09 (cap meet : Int) (w : World) :
    Calls Try.prog 7 #[.agg #[.int .i64 cap, .int .i64 meet]] w fun e w' =>
      e = .returned (.tuple #[.agg (if fit cap meet then bk0 cap meet else bk0 0 0), .int .i64 (if fit cap meet then 0 else 1)]) ∧ Only Nil w w' := by
  have HC := Lib.hid (fun W => config_any cap meet W)
  cases hf : fit cap meet with
  | true =>
    rw [hf] at HC
    clear hf
    go_enter Try.func7, Try.ntmps7
    go_wp2_with fail
    refine (HC.out _).mono ?_
    rintro e w1 ⟨rfl, ho⟩
    have b0 := ho.blk (blk_alloc (blk_new w (.cells #[.int .i64 cap, .int .i64 meet] 23)) (.cells (bk0 0 0) tBk)) (fun h => h)
    have b1 := ho.blk (blk_new' (w.alloc (.cells #[.int .i64 cap, .int .i64 meet] 23)) (.cells (bk0 0 0) tBk) (w.heap.size + 1) (by simp)) (fun h => h)
    have c0 := blk_cell b0 0
    have c1 := blk_cell b0 1
    have l0 := blk_lt b0
    simp only [List.getElem?_toArray, List.getElem?_cons_zero, List.getElem?_cons_succ] at c0 c1
    have B1 := Lib.hid b1
    have O1 := Lib.hid ho
    clear b0 b1 ho
    go_wp2_with (refine wpList_store_row rfl tBk (.tmp 2) (.tmp 9) rfl _ rfl (bk0 cap meet) (bk0 0 0) rfl _ B1.out infoBk rfl (one_bk0 _ _) ?_)
    refine bodyPost_ret (v := .tuple #[.agg (bk0 cap meet), .int .i64 0]) (results_agg_tmp rfl _ _ _ _ _ _ _ rfl _ rfl (blk_setRow B1.out (bk0 cap meet)) Try.underlying32 rfl infoBk) rfl ⟨rfl, ?_⟩
    exact ((((Only.refl Nil w).alloc _).alloc _).trans O1.out (fun _ _ h => h)).setRow (.inr (by omega)) _
  | false =>
    rw [hf] at HC
    clear hf
    go_enter Try.func7, Try.ntmps7
    go_wp2_with fail
    refine (HC.out _).mono ?_
    rintro e w1 ⟨rfl, ho⟩
    have b1 := ho.blk (blk_new' (w.alloc (.cells #[.int .i64 cap, .int .i64 meet] 23)) (.cells (bk0 0 0) tBk) (w.heap.size + 1) (by simp)) (fun h => h)
    have B1 := Lib.hid b1
    have O1 := Lib.hid ho
    clear b1 ho
    go_wp2_with (refine wpList_store_row rfl tBk (.tmp 2) (.tmp 7) rfl _ rfl (bk0 0 0) (bk0 0 0) rfl _ B1.out infoBk rfl (one_bk0 _ _) ?_)
    refine bodyPost_ret (v := .tuple #[.agg (bk0 0 0), .int .i64 1]) (results_agg_tmp rfl _ _ _ _ _ _ _ rfl _ rfl (blk_setRow B1.out (bk0 0 0)) Try.underlying32 rfl infoBk) rfl ⟨rfl, ?_⟩
    exact ((((Only.refl Nil w).alloc _).alloc _).trans O1.out (fun _ _ h => h)).setRow (.inr (by omega)) _

theorem laysBk : Lays tBk (bk0 0 0) := fun W => by kernel_rfl
theorem laysK : Lays tK (rk0 0 0) := fun W => by kernel_rfl
theorem buildK (cap meet : Int) (W : World) : (Instr.build tK #[(0, .agg (bk0 cap meet))]).run Try.prog W = .ok (.agg (rk0 cap meet)) W := by kernel_rfl

set_option maxHeartbeats 400000 in
set_option maxRecDepth 100000 in
theorem new19 (cap meet : Int) (w : World) :
    Calls Try.prog 12 #[.agg #[.int .i64 cap, .int .i64 meet]] w fun e w' =>
      e = .returned (.tuple #[.agg (if fit cap meet then rk0 cap meet else rk0 0 0), .int .i64 (if fit cap meet then 0 else 1)]) ∧ Only Nil w w' := by
  have HC := Lib.hid (fun W => new09 cap meet W)
  have key : ∀ (cap' meet' code : Int), Hid (∀ W, Calls Try.prog 7 #[.agg #[.int .i64 cap, .int .i64 meet]] W fun e w' => e = .returned (.tuple #[.agg (bk0 cap' meet'), .int .i64 code]) ∧ Only Nil W w') →
      Calls Try.prog 12 #[.agg #[.int .i64 cap, .int .i64 meet]] w fun e w' => e = .returned (.tuple #[.agg (rk0 cap' meet'), .int .i64 code]) ∧ Only Nil w w' := by
    intro cap' meet' code H
    clear HC
    go_enter Try.func12, Try.ntmps12
    go_wp2_with (refine wpList_alloc_agg rfl tK rfl _ laysK ?_)
    refine (H.out _).mono ?_
    rintro e w1 ⟨rfl, ho⟩
    have b1 := ho.blk (blk_new' (w.alloc (.cells #[.int .i64 cap, .int .i64 meet] 23)) (.cells (rk0 0 0) tK) (w.heap.size + 1) (by simp)) (fun h => h)
    have B1 := Lib.hid b1
    have O1 := Lib.hid ho
    clear b1 ho
    go_wp2_with (first | (refine wpList_alloc_store rfl tBk rfl 4 rfl (bk0 0 0) laysBk rfl (.tmp 9) rfl rfl (bk0 cap' meet') rfl rfl infoBk rfl (one_bk0 _ _) ?_) | (refine wpList_load_row rfl tBk (.tmp 4) rfl _ rfl _ _ _ _ (blk_new w1 (.cells (bk0 cap' meet') tBk)) Try.underlying32 rfl infoBk ?_) | (refine wpList_build_agg rfl tK #[(0, .tmp 11)] rfl #[(0, .agg (bk0 cap' meet'))] (by simp only [List.map_toArray, List.map_cons, List.map_nil]; rfl) _ (buildK cap' meet') ?_) | (refine wpList_store_row rfl tK (.tmp 2) (.tmp 12) rfl _ rfl (rk0 cap' meet') (rk0 0 0) rfl _ (blk_alloc B1.out _) infoK rfl (one_rk0 _ _) ?_))
    refine bodyPost_ret (v := .tuple #[.agg (rk0 cap' meet'), .int .i64 code]) (results_agg_tmp rfl _ _ _ _ _ _ _ rfl _ rfl (blk_setRow (blk_alloc B1.out (.cells (bk0 cap' meet') tBk)) (rk0 cap' meet')) Try.underlying54 rfl infoK) rfl ⟨rfl, ?_⟩
    exact (((((Only.refl Nil w).alloc _).alloc _).trans O1.out (fun _ _ h => h)).alloc _).setRow (.inr (by omega)) _
  cases hf : fit cap meet with
  | true =>
    rw [hf] at HC
    exact key _ _ _ HC
  | false =>
    rw [hf] at HC
    exact key _ _ _ HC

def ck0 (cap meet : Int) : Array Value := #[.int .i64 cap, .int .i64 meet, .slice none 0 0, .slice none 0 0, .int .u64 0, .int .u64 0, .pointer none, .pointer none]
set_option maxHeartbeats 400000 in
set_option maxRecDepth 100000 in
theorem newP_yes (cap meet : Int) (w : World) (hf : fit cap meet = true) :
    Calls Try.prog 11 #[.agg #[.int .i64 cap, .int .i64 meet]] w fun e w' =>
      (∃ C, e = .returned (.tuple #[.pointer (some ⟨C, 0, none⟩), .int .i64 0]) ∧ w.heap.size ≤ C ∧ w'.heap[C]? = some (.cells (ck0 cap meet) tC (0, 0))) ∧ Only Nil w w' := by
  obtain ⟨h1, h2, h3, h4⟩ := fit_yes hf
  clear hf
  go_enter Try.func11, Try.ntmps11
  go_wp2
  go_ret2
  exact ⟨⟨_, rfl, by omega, blk_new' _ _ _ (by simp)⟩, ((Only.refl Nil w).alloc _).alloc _⟩

set_option maxHeartbeats 400000 in
set_option maxRecDepth 100000 in
theorem newP_no (cap meet : Int) (w : World) (hf : fit cap meet = false) :
    Calls Try.prog 11 #[.agg #[.int .i64 cap, .int .i64 meet]] w fun e w' => e = .returned (.tuple #[.pointer none, .int .i64 1]) ∧ Only Nil w w' := by
  have hq : (decide (cap < 1) = true) ∨ (decide (cap < 1) = false ∧ decide (4096 < cap) = true) ∨ (decide (cap < 1) = false ∧ decide (4096 < cap) = false ∧ decide (meet < 0) = true) ∨ (decide (cap < 1) = false ∧ decide (4096 < cap) = false ∧ decide (meet < 0) = false ∧ decide (3 < meet) = true) := by
    have := fit_no hf
    by_cases h1 : cap < 1 <;> by_cases h2 : 4096 < cap <;> by_cases h3 : meet < 0 <;> by_cases h4 : 3 < meet <;> simp [h1, h2, h3, h4] <;> omega
  clear hf
  rcases hq with h1 | ⟨h1, h2⟩ | ⟨h1, h2, h3⟩ | ⟨h1, h2, h3, h4⟩
  all_goals
    go_enter Try.func11, Try.ntmps11
    go_wp2
    go_ret2
    exact ⟨rfl, (Only.refl Nil w).alloc _⟩
end Ck
end Go.Proofs.Ytcnkbhgdcfckoaa
