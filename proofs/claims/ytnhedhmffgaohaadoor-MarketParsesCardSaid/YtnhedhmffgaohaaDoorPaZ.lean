/- Sayings in memory; the walk of the document's Parse. -/
import Derived.Test.YtnhedhmffgaohaaDoorPaY
namespace Go.Proofs.YtnhedhmffgaohaaDoor
open Go.RowKit
namespace Pa
def sycells (p : Sy × Value) : List Value := [.int .i64 (p.1.n : Int), .string p.1.word, p.2]
theorem sylen (p : Sy × Value) : (sycells p).length = 3 := rfl
/-- The slice v holds the sayings of ps, each with the slice of its arguments. -/
structure Says (w : World) (base : Nat) (v : Value) (ps : List (Sy × Value)) : Prop where
  row : w.ownsRow base tSy 3 v ps.length (ps.flatMap sycells)
  args : ∀ p ∈ ps, w.ownsRow base tStr 1 p.2 p.1.args.length (p.1.args.map Value.string)
  apart : ps.Pairwise (fun p q => ∀ b, p.2.ownBlock = some b → q.2.ownBlock ≠ some b)
theorem Says.only {w w1 : World} {base : Nat} {v : Value} {ps : List (Sy × Value)} {S : Nat → Prop} (h : Says w base v ps) (ho : Only S w w1) (h1 : ∀ b, v.ownBlock = some b → ¬ S b) (h2 : ∀ p ∈ ps, ∀ b, p.2.ownBlock = some b → ¬ S b) : Says w1 base v ps :=
  ⟨own_only h.row ho h1, fun p hp => own_only (h.args p hp) ho (h2 p hp), h.apart⟩
theorem Says.nil {w w1 : World} {base : Nat} {v : Value} {ps : List (Sy × Value)} (h : Says w base v ps) (ho : Only Nil w w1) : Says w1 base v ps := h.only ho (fun _ _ h => h) (fun _ _ _ _ h => h)
theorem Says.mono {w : World} {base base' : Nat} {v : Value} {ps : List (Sy × Value)} (h : Says w base v ps) (hb : base' ≤ base) : Says w base' v ps := ⟨own_mono h.row hb, fun p hp => own_mono (h.args p hp) hb, h.apart⟩
theorem Says.none (w : World) (base : Nat) : Says w base (.slice none 0 0) [] := ⟨own_nil _ _ _ _, fun p hp => by simp at hp, List.Pairwise.nil⟩
/-- A saying more. -/
theorem Says.snoc {w w1 w2 : World} {base : Nat} {v v' : Value} {ps : List (Sy × Value)} {x : Sy} {av : Value} (h : Says w base v ps) (ho : Only Nil w w1) (ha : w1.ownsRow w.heap.size tStr 1 av x.args.length (x.args.map Value.string)) (hb : base ≤ w.heap.size)
    (hg : w1.grownBy w2 v.ownBlock) (hr : w2.ownsRow base tSy 3 v' (ps.length + 1) (ps.flatMap sycells ++ sycells (x, av))) : Says w2 base v' (ps ++ [(x, av)]) := by
  have h1 := h.nil ho
  have ho2 : Only (Row v) w1 w2 := (Only.refl _ _).grown hg (fun k hk _ => hk)
  refine ⟨by simpa using hr, fun p hp => ?_, ?_⟩
  · rcases List.mem_append.1 hp with hp | hp
    · exact own_only (h1.args p hp) ho2 (fun k hk hs => own_own_ne (h1.args p hp) h1.row (show tStr ≠ tSy by decide) hk hs)
    · simp only [List.mem_singleton] at hp
      subst hp
      exact own_mono (own_only ha ho2 (fun k hk hs => own_own_ne ha h1.row (show tStr ≠ tSy by decide) hk hs)) hb
  · refine List.pairwise_append.2 ⟨h.apart, List.pairwise_singleton _ _, fun p hp q hq b hb1 hb2 => ?_⟩
    simp only [List.mem_singleton] at hq
    subst hq
    have e1 := own_lt (h.args p hp) hb1
    have e2 := (ha.lt b hb2).1
    omega
def POut (r : PRes) (base : Nat) (e : Ending) (w' : World) : Prop := match r with
  | .bad n a c => e = .returned (.tuple #[.slice none 0 0, .int .i64 (n : Int), .int .i64 (a : Int), .int .i64 (c : Int)])
  | .good l => ∃ v ps, ps.map (·.1) = l ∧ e = .returned (.tuple #[v, .int .i64 0, .int .i64 0, .int .i64 0]) ∧ Says w' base v ps
theorem results_tmp4 {fn : Func} {t u v x : Tmp} (h : fn.results = #[.tmp t, .tmp u, .tmp v, .tmp x]) (tmps : Array Value) (P : Program) (w : World) :
    (results fn tmps).run P w = .ok (.tuple #[tmps.getD t undef, tmps.getD u undef, tmps.getD v undef, tmps.getD x undef]) w := by
  simp [results, h]
theorem str_at {w : World} {g n c base : Nat} {l : List ByteArray} (h : w.ownsRow base tStr 1 (.slice (some ⟨g, 0, none⟩) n c) n (l.map Value.string)) {i : Nat} {x : ByteArray} (hx : l[i]? = some x) : w.cell? ⟨g, i, none⟩ = some (.string x) :=
  own_cell h (by rw [List.getElem?_map, hx]; rfl)
theorem infoSyB : (Tryd.prog.info? tSy).map (fun i => (i.zero, i.size, i.bytes)) = some (some (.agg zSy), 3, 48) := by kernel_rfl
theorem one_syc (p : Sy × Value) (h : p.2.oneCell' = true) : ∀ u ∈ sycells p, u.oneCell' = true := by
  intro u hu
  simp only [sycells, List.mem_cons, List.not_mem_nil, or_false] at hu
  rcases hu with rfl | rfl | rfl
  · rfl
  · rfl
  · exact h
theorem bytesSy (n : Nat) (h : n ≤ 1000000) : n + 1 ≤ maxLen ∧ (n + 1) * 48 ≤ 140737488355328 := ⟨by unfold maxLen; omega, by omega⟩
end Pa
end Go.Proofs.YtnhedhmffgaohaaDoor
