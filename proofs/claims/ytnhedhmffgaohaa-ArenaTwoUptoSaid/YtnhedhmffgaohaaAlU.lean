/- The law's nodes and queues, whatever the step. -/
import Derived.Test.YtnhedhmffgaohaaAlR
import Derived.Test.YtnhedhmffgaohaaAlS
namespace Go.Proofs.Ytnhedhmffgaohaa
open Go.RowKit
namespace Al
open Go.Proofs.Ytnhedhmffgaohaa.Or (Opv)

theorem nodes_all {B : Nat → Prop} {w : World} {W A D : Nat} {s : Ar} {Ls : List (List Nat)} {hs : List Hd} {vq vh : Value} (h : Wl B w W A D s Ls hs vq vh) (o : Opv) (ho : o.ok) (i l : Nat) (hi : i < 4294967296) (hn : Ls.length < 4194304) (hh : hs.length ≤ 4194304) :
    Calls Try.prog 30 #[.pointer (some ⟨W, 0, none⟩), .agg (ocs o), hv i l] w fun e w' => e = .returned (.bool true) ∧ Done B w W A D Ls hs w' := by
  by_cases h0 : o.kind = 0
  · exact nodes_take h o i l (by omega) hh h0 ho.value
  by_cases h1 : o.kind = 1
  · exact nodes_drop h o i l hi (by omega) h1
  by_cases h3 : o.kind = 3
  · exact nodes_set h o i l hi (by omega) h3 ho.value
  by_cases h10 : o.kind = 10
  · exact nodes_begin h o i l hn h10
  exact nodes_get h o i l hi (by omega) h0 h1 h3 h10

theorem jat (s : Ar) (o : Opv) (h : (blks s).length ≠ 0) : ∃ j, JAt s o j := by
  have hp : (0 : Int) < ((blks s).length : Int) := by omega
  have h1 := Int.tmod_lt_of_pos o.queue hp
  have h2 := Int.lt_tmod_of_pos o.queue hp
  by_cases h3 : Int.tmod o.queue ((blks s).length : Int) < 0
  · exact ⟨(Int.tmod o.queue ((blks s).length : Int) + ((blks s).length : Int)).toNat, by omega, .inr ⟨h3, by omega⟩⟩
  · exact ⟨(Int.tmod o.queue ((blks s).length : Int)).toNat, by omega, .inl (by omega)⟩

theorem queues_all {B : Nat → Prop} {w : World} {W A D : Nat} {s : Ar} {Ls : List (List Nat)} {hs : List Hd} {vq vh : Value} (h : Wl B w W A D s Ls hs vq vh) (o : Opv) (i l : Nat) (hi : i < 4294967296) (hn : Ls.length ≤ 4194304) :
    Calls Try.prog 31 #[.pointer (some ⟨W, 0, none⟩), .agg (ocs o), hv i l] w fun e w' => e = .returned (.bool true) ∧ Done B w W A D Ls hs w' := by
  by_cases h0 : (blks s).length = 0
  · exact queues_none h o i l h0
  obtain ⟨j, hj⟩ := jat s o h0
  by_cases h4 : o.kind = 4
  · exact queues_push h o i l hi hn j hj h4
  by_cases h5 : o.kind = 5
  · exact queues_next h o i l hi hn j hj h5
  by_cases h6 : o.kind = 6
  · exact queues_remove h o i l hi hn j hj h6
  by_cases h7 : o.kind = 7
  · exact queues_mark h o i l hi hn j hj h7
  by_cases h8 : o.kind = 8
  · exact queues_pop h o i l hn j hj h8
  by_cases h9 : o.kind = 9
  · exact queues_sweep h o i l hn j hj h9
  exact queues_other h o i l hn j hj (by omega)
end Al
end Go.Proofs.Ytnhedhmffgaohaa
