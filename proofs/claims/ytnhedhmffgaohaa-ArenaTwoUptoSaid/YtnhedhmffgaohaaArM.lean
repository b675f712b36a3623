/- The plain model of an arena and its queues: states and what each call makes of them. No program in sight. -/
import Derived.Test.YtnhedhmffgaohaaBase
namespace Go.Proofs.Ytnhedhmffgaohaa

/-- A place: its value's cells, its life, whether it is taken or dead, the block of the queue in which it stands, its neighbours. -/
structure Nd where
  v : List Value
  life : Nat
  taken : Bool
  dead : Bool
  inq : Option Nat
  ahead : Int
  back : Int
def qptr (q : Option Nat) : Value := .pointer (q.map fun b => ⟨b, 0, none⟩)
def Nd.cells (d : Nd) : List Value := d.v ++ [.int .u32 (d.life : Int), .bool d.taken, .bool d.dead, qptr d.inq, .int .i64 d.ahead, .int .i64 d.back]
structure Qu where
  blk : Nat
  first : Int
  last : Int
  live : Int
  dead : Int
structure Ar where
  room : Nat
  nodes : List Nd
  free : List Nat
  qs : List Qu

/-- What always holds. -/
structure Ar.wf (m : Nat) (s : Ar) : Prop where
  room : s.room ≤ 65536
  len : s.nodes.length ≤ s.room
  free : ∀ i ∈ s.free, i < s.nodes.length
  flen : s.free.length ≤ s.nodes.length
  nd : s.free.Nodup
  cells : ∀ d ∈ s.nodes, d.v.length = m
  life : ∀ d ∈ s.nodes, d.life < 4294967296

def Ar.good (s : Ar) (i l : Nat) : Bool := match s.nodes[i]? with | some d => d.taken && d.life == l | none => false

/-- A place taken. -/
def Nd.take (d : Nd) (v : List Value) : Nd := { d with v := v, life := (d.life + 1) % 4294967296, taken := true, dead := false }
def ndz (v : List Value) : Nd := ⟨v, 0, false, false, none, 0, 0⟩
def nd0 (v : List Value) : Nd := ⟨v, 1, true, false, none, 0, 0⟩
def Nd.drop (d : Nd) (z : List Value) : Nd := { d with v := z, taken := false }

end Go.Proofs.Ytnhedhmffgaohaa
