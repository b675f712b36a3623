/- Steps of the laws of layer 5, as they come in. -/
import Derived.Test.YtnhedhmffgaohaaBase
namespace Go.Proofs.Ytnhedhmffgaohaa
open Go.RowKit
namespace Or

/-- A step, as it came in. -/
structure Opv where
  kind : Int
  queue : Int
  which : Int
  value : Int
  raw : Bool
  ix : Nat
  life : Nat
def Opv.cells (o : Opv) : List Value := [.int .i64 o.kind, .int .i64 o.queue, .int .i64 o.which, .int .i64 o.value, .bool o.raw, .int .u32 o.ix, .int .u32 o.life]
structure Opv.ok (o : Opv) : Prop where
  kind : -9223372036854775808 ≤ o.kind ∧ o.kind ≤ 9223372036854775807
  queue : -9223372036854775808 ≤ o.queue ∧ o.queue ≤ 9223372036854775807
  which : -9223372036854775808 ≤ o.which ∧ o.which ≤ 9223372036854775807
  value : -9223372036854775808 ≤ o.value ∧ o.value ≤ 9223372036854775807
  ix : o.ix < 4294967296
  life : o.life < 4294967296
/-- What a walk is told of steps that came in. -/
def IsOps (w : World) (a : Option Addr) (n : Nat) : Prop := n ≤ 9223372036854775807 ∧ ∀ k, k < n → ∃ (b off : Nat) (o : Opv), a = some ⟨b, off, none⟩ ∧ b < w.heap.size ∧ o.ok ∧ ∀ (j : Nat) (u : Value), o.cells[j]? = some u → w.cell? ⟨b, off + k * 7 + j, none⟩ = some u

end Or
end Go.Proofs.Ytnhedhmffgaohaa
