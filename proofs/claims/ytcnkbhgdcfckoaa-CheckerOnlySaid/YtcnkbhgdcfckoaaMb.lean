/- The checker of the program, plain: orders, events, books, what must come, what is taken. No program in sight. -/
import Derived.WalkKit
set_option linter.unusedVariables false
set_option linter.unusedSimpArgs false
namespace Go.Proofs.Ytcnkbhgdcfckoaa
namespace Ck
structure Rs where
  id : Int
  mem : Int
  typ : Int
  price : Int
  vis : Int
  hid : Int
  peak : Int
deriving DecidableEq
structure Ev where
  seq : Int
  kind : Int
  id : Int
  other : Int
  target : Int
  mem : Int
  side : Int
  typ : Int
  price : Int
  qty : Int
  peak : Int
  reason : Int
  code : Int
deriving DecidableEq
def Rs.cells (r : Rs) : List Value := [.int .u64 r.id, .int .u32 r.mem, .int .i64 r.typ, .int .i64 r.price, .int .u64 r.vis, .int .u64 r.hid, .int .u64 r.peak]
def Ev.cells (e : Ev) : List Value := [.int .u64 e.seq, .int .i64 e.kind, .int .u64 e.id, .int .u64 e.other, .int .u64 e.target, .int .u32 e.mem, .int .i64 e.side, .int .i64 e.typ, .int .i64 e.price, .int .u64 e.qty, .int .u64 e.peak, .int .i64 e.reason, .int .i64 e.code]
theorem Rs.len (r : Rs) : r.cells.length = 7 := rfl
theorem Ev.len (e : Ev) : e.cells.length = 13 := rfl
def zR : Rs := ⟨0, 0, 0, 0, 0, 0, 0⟩
def zE : Ev := ⟨0, 0, 0, 0, 0, 0, 0, 0, 0, 0, 0, 0, 0⟩
/-- What an event's fields can hold. -/
structure Ev.wf (e : Ev) : Prop where
  seq : 0 ≤ e.seq ∧ e.seq < 18446744073709551616
  kind : -9223372036854775808 ≤ e.kind ∧ e.kind ≤ 9223372036854775807
  id : 0 ≤ e.id ∧ e.id < 18446744073709551616
  other : 0 ≤ e.other ∧ e.other < 18446744073709551616
  target : 0 ≤ e.target ∧ e.target < 18446744073709551616
  mem : 0 ≤ e.mem ∧ e.mem < 4294967296
  side : -9223372036854775808 ≤ e.side ∧ e.side ≤ 9223372036854775807
  typ : -9223372036854775808 ≤ e.typ ∧ e.typ ≤ 9223372036854775807
  price : -9223372036854775808 ≤ e.price ∧ e.price ≤ 9223372036854775807
  qty : 0 ≤ e.qty ∧ e.qty < 18446744073709551616
  peak : 0 ≤ e.peak ∧ e.peak < 18446744073709551616
  reason : -9223372036854775808 ≤ e.reason ∧ e.reason ≤ 9223372036854775807
  code : -9223372036854775808 ≤ e.code ∧ e.code ≤ 9223372036854775807

/-- A book. -/
structure Bk where
  cap : Int
  meet : Int
  buys : List Rs
  sells : List Rs
  high : Int
  seq : Int
def Bk.side (b : Bk) (s : Int) : List Rs := if s = 1 then b.buys else b.sells
def Bk.set (b : Bk) (s : Int) (l : List Rs) : Bk := if s = 1 then { b with buys := l } else { b with sells := l }
def Bk.count (b : Bk) : Nat := b.buys.length + b.sells.length

def mx : Int := 18446744073709551615
/-- What holds of an order that rests. -/
structure Rs.ok (high : Int) (r : Rs) : Prop where
  id : 1 ≤ r.id ∧ r.id ≤ high
  mem : 0 ≤ r.mem ∧ r.mem < 4294967296
  typ : r.typ = 1 ∨ r.typ = 5
  price : 0 ≤ r.price ∧ r.price < 262144
  vis : 0 ≤ r.vis
  hid : 0 ≤ r.hid
  peak : 0 ≤ r.peak ∧ r.peak ≤ 4294967295
  sum : 1 ≤ r.vis + r.hid ∧ r.vis + r.hid ≤ 4294967295
  hpos : 0 < r.hid → 0 < r.peak
/-- What always holds of a book. -/
structure Bk.ok (b : Bk) : Prop where
  cap : 1 ≤ b.cap ∧ b.cap ≤ 4096
  meet : 0 ≤ b.meet ∧ b.meet ≤ 3
  high : 0 ≤ b.high ∧ b.high < 18446744073709551616
  seq : 0 ≤ b.seq ∧ b.seq < 18446744073709551616
  buys : ∀ r ∈ b.buys, r.ok mx
  sells : ∀ r ∈ b.sells, r.ok mx
  one : ((b.buys ++ b.sells).map Rs.id).Nodup
  room : b.count ≤ 4096

def ahead (side p q : Int) : Bool := (side == 1 && decide (q < p)) || (side == 2 && decide (p < q))
def meets (side kind own price : Int) : Bool := kind == 2 || !ahead side price own
/-- A list with an order behind all that are not worse. -/
def rests (side : Int) (o : Rs) : List Rs → List Rs
  | [] => [o]
  | p :: r => if ahead side o.price p.price then o :: p :: r else p :: rests side o r
def findAt (id : Int) : List Rs → Option Nat
  | [] => none
  | r :: l => if r.id = id then some 0 else (findAt id l).map (· + 1)
/-- Where an order rests: its side, its place. -/
def Bk.find (b : Bk) (id : Int) : Option (Int × Nat) := match findAt id b.buys with
  | some i => some (1, i)
  | none => match findAt id b.sells with
    | some i => some (2, i)
    | none => none

/-- The order that comes. -/
structure Cg where
  o : Rs
  side : Int
  kind : Int
  left : Int
  traded : Bool
  empty : Int
  met : Bool
def Cg.cells (c : Cg) : List Value := c.o.cells ++ [.int .i64 c.side, .int .i64 c.kind, .int .u64 c.left, .bool c.traded, .int .u64 c.empty, .bool c.met]
theorem Cg.len (c : Cg) : c.cells.length = 13 := rfl
def far (side : Int) : Int := 3 - side
structure Cg.ok (b : Bk) (c : Cg) : Prop where
  side : c.side = 1 ∨ c.side = 2
  kind : 1 ≤ c.kind ∧ c.kind ≤ 5
  left : 0 ≤ c.left ∧ c.left ≤ 4294967295
  id : 1 ≤ c.o.id ∧ c.o.id ≤ mx
  mem : 0 ≤ c.o.mem ∧ c.o.mem < 4294967296
  typ : 1 ≤ c.o.typ ∧ c.o.typ ≤ 5
  price : 0 ≤ c.o.price ∧ c.o.price < 262144
  zero : c.o.vis = 0 ∧ c.o.hid = 0
  peak : 0 ≤ c.o.peak ∧ c.o.peak ≤ 4294967295
  ids : c.o.id ∉ (b.buys ++ b.sells).map Rs.id
  /-- What shows nothing is the one to be refreshed. -/
  shows : ∀ r ∈ b.buys ++ b.sells, r.vis = 0 → r.id = c.empty
  empty : c.empty = 0 ∨ ∃ r l, b.side (far c.side) = r :: l ∧ r.id = c.empty ∧ r.vis = 0
  /-- There is room for what may rest. -/
  room : c.kind = 1 ∨ c.kind = 5 → b.count + 1 ≤ 4096
def first (b : Bk) (c : Cg) : Option Rs := match b.side (far c.side) with
  | [] => none
  | p :: _ => if meets c.side c.kind c.o.price p.price then some p else none
def own (b : Bk) (c : Cg) (o : Rs) : Bool := o.mem == c.o.mem && o.mem != 0 && b.meet != 0
def evCancel (id qty why : Int) : Ev := { zE with kind := 4, id := id, qty := qty, reason := why }
/-- What must come next; whole: would the one that comes trade whole? -/
def must (whole : Bool) (b : Bk) (c : Cg) : Option Ev :=
  if c.empty ≠ 0 then match b.side (far c.side) with
    | [] => none
    | o :: _ => some { zE with kind := 5, id := o.id, price := o.price, qty := min o.peak o.hid }
  else if c.kind = 4 ∧ c.traded = false ∧ whole = false then some (evCancel c.o.id c.left 4)
  else if c.left = 0 then none
  else if c.met = true then some (evCancel c.o.id c.left 5)
  else match first b c with
    | some o => if own b c o = true then (if b.meet = 1 then some (evCancel c.o.id c.left 5) else some (evCancel o.id (o.vis + o.hid) 5))
      else some { zE with kind := 3, id := c.o.id, other := o.id, side := c.side, price := o.price, qty := min c.left o.vis }
    | none => if c.kind = 1 ∨ c.kind = 5 then none else some (evCancel c.o.id c.left 3)
/-- The event that had to come is taken. -/
def takes (b : Bk) (c : Cg) (e : Ev) : Bk × Cg :=
  let c := { c with traded := true }
  let s := far c.side
  if e.kind = 5 then match b.side s with
    | [] => (b, c)
    | o :: l => (b.set s (rests s { o with vis := e.qty, hid := o.hid - e.qty } l), { c with empty := 0 })
  else if e.kind = 3 then match b.side s with
    | [] => (b, c)
    | o :: l =>
      let o' := { o with vis := o.vis - e.qty }
      let c := { c with left := c.left - e.qty }
      if o'.vis = 0 ∧ 0 < o'.hid then (b.set s (o' :: l), { c with empty := o'.id })
      else if o'.vis = 0 then (b.set s l, c)
      else (b.set s (o' :: l), c)
  else if e.id = c.o.id then (b, { c with left := 0 })
  else (b.set s ((b.side s).drop 1), { c with met := decide (b.meet = 3) })
/-- Does the one that comes (as an IOC) trade whole? left: what it had not traded yet. -/
def wholeGo : Nat → Bk → Cg → Int → Bool
  | 0, _, _, left => decide (left = 0)
  | n + 1, b, c, left => match must true b c with
    | none => decide (left = 0)
    | some m => if m.kind = 4 ∧ m.id = c.o.id then decide (left = 0)
      else wholeGo n (takes b c m).1 (takes b c m).2 (if m.kind = 3 then left - m.qty else left)
/-- How much there is to tell at most. -/
def amount : List Rs → Int
  | [] => 0
  | r :: l => r.vis + r.hid + amount l
end Ck
end Go.Proofs.Ytcnkbhgdcfckoaa
namespace Go.Proofs.Ytcnkbhgdcfckoaa
namespace Ck
/-- A command. -/
structure Cm where
  kind : Int
  id : Int
  target : Int
  mem : Int
  side : Int
  typ : Int
  price : Int
  qty : Int
  peak : Int
deriving DecidableEq
def Cm.cells (c : Cm) : List Value := [.int .i64 c.kind, .int .u64 c.id, .int .u64 c.target, .int .u32 c.mem, .int .i64 c.side, .int .i64 c.typ, .int .i64 c.price, .int .u64 c.qty, .int .u64 c.peak]
def better (side p q : Int) : Bool := if side = 1 then decide (q < p) else decide (p < q)
/-- What comes, in the document's engine. -/
structure Co where
  id : Int
  left : Int
  peak : Int
  mem : Int
  side : Int
  kind : Int
  price : Int
def sideR (b : Bk) (s : Int) : List Rs := if s = 1 then b.buys else if s = 2 then b.sells else []
def meetsR (b : Bk) (o : Co) : Bool := match sideR b (3 - o.side) with
  | [] => false
  | p :: _ => o.kind == 2 || p.price == o.price || (if o.side = 1 then decide (p.price < o.price) else decide (o.price < p.price))
def wrapU (n : Int) : Int := n % 18446744073709551616
abbrev Td := Bk × List Ev
def tell (t : Td) (e : Ev) : Td := ({ t.1 with seq := wrapU (t.1.seq + 1) }, t.2 ++ [{ e with seq := wrapU (t.1.seq + 1) }])
def without (l : List Rs) (id : Int) : List Rs := l.filter (fun r => r.id != id)
def enq (s : Int) (o : Rs) : List Rs → List Rs
  | [] => [o]
  | p :: r => if better s o.price p.price then o :: p :: r else p :: enq s o r
def evTrade (o : Co) (m : Rs) (q : Int) : Ev := { zE with kind := 3, id := o.id, other := m.id, side := o.side, price := m.price, qty := q }
def evFresh (m : Rs) (q : Int) : Ev := { zE with kind := 5, id := m.id, price := m.price, qty := q }
/-- What comes meets one of its own member. -/
def stepOwn (t : Td) (o : Co) (m : Rs) (l : List Rs) : Td × Co :=
  let s := 3 - o.side
  let t1 : Td := if t.1.meet = 2 ∨ t.1.meet = 3 then
      let u := tell t (evCancel m.id (m.vis + m.hid) 5)
      (u.1.set s (without l m.id), u.2)
    else t
  if t.1.meet = 1 ∨ t.1.meet = 3 then (tell t1 (evCancel o.id o.left 5), { o with left := 0 }) else (t1, o)
/-- What comes trades with the first. -/
def stepTrade (t : Td) (o : Co) (m : Rs) (l : List Rs) : Td × Co :=
  let s := 3 - o.side
  let q := if m.vis < o.left then m.vis else o.left
  let u := tell t (evTrade o m q)
  let o' := { o with left := o.left - q }
  let v := m.vis - q
  if 0 < v then ((u.1.set s ({ m with vis := v } :: without l m.id), u.2), o')
  else if 0 < m.hid then
    let n := if m.hid < m.peak then m.hid else m.peak
    let m' := { m with vis := n, hid := m.hid - n }
    let x := tell u (evFresh m n)
    ((x.1.set s (enq s m' (without l m.id)), x.2), o')
  else ((u.1.set s (without l m.id), u.2), o')
def ownR (b : Bk) (o : Co) (m : Rs) : Bool := m.mem != 0 && m.mem == o.mem && b.meet != 0
def stepR (t : Td) (o : Co) : Td × Co := match sideR t.1 (3 - o.side) with
  | [] => (t, o)
  | m :: r => if ownR t.1 o m = true then stepOwn t o m (m :: r) else stepTrade t o m (m :: r)
def tradesR : Nat → Td → Co → Td × Co
  | 0, t, o => (t, o)
  | n + 1, t, o => if 0 < o.left ∧ meetsR t.1 o = true then tradesR n (stepR t o).1 (stepR t o).2 else (t, o)
def todoR (b : Bk) (o : Co) : Nat := (amount (sideR b (3 - o.side))).toNat
def sumTrades (l : List Ev) : Int := (l.map fun e => if e.kind = 3 then e.qty else 0).sum
def wholeR (b : Bk) (o : Co) : Bool := decide (sumTrades (tradesR (todoR b o) (b, []) o).1.2 = o.left)
def restR (o : Co) : Rs :=
  if 0 < o.peak ∧ o.peak < o.left then ⟨o.id, o.mem, o.kind, o.price, o.peak, o.left - o.peak, o.peak⟩ else ⟨o.id, o.mem, o.kind, o.price, o.left, 0, o.peak⟩
def endR (t : Td) (o : Co) : Td :=
  if o.left = 0 then t
  else if o.kind ≠ 1 ∧ o.kind ≠ 5 then tell t (evCancel o.id o.left 3)
  else (t.1.set o.side (enq o.side (restR o) (sideR t.1 o.side)), t.2)
def comesR (t : Td) (o : Co) : Td :=
  if o.kind = 4 ∧ wholeR t.1 o = false then tell t (evCancel o.id o.left 4)
  else endR (tradesR (todoR t.1 o) t o).1 (tradesR (todoR t.1 o) t o).2
def amounts (c : Cm) (kind : Int) : Int :=
  if c.price < 0 ∨ 262144 ≤ c.price ∨ (kind = 2 ∧ c.price ≠ 0) then 94
  else if c.qty < 1 ∨ 4294967295 < c.qty then 95
  else if c.qty < c.peak ∨ (c.peak ≠ 0 ∧ ((kind ≠ 1 ∧ kind ≠ 5) ∨ 256 * c.peak < c.qty)) then 96
  else if c.id = 0 then 97 else 0
def checkR (c : Cm) : Int :=
  if c.kind = 2 then 0
  else if c.kind = 3 then amounts c 1
  else if c.kind = 1 then
    if c.side ≠ 1 ∧ c.side ≠ 2 then 92 else if c.typ < 1 ∨ 5 < c.typ then 93 else amounts c c.typ
  else 90
/-- The order of a number, its side. -/
def findR (b : Bk) (id : Int) : Option (Rs × Int) := match b.buys.find? (fun r => r.id == id) with
  | some r => some (r, 1)
  | none => match b.sells.find? (fun r => r.id == id) with
    | some r => some (r, 2)
    | none => none
def refusedR (b : Bk) (c : Cm) : Int :=
  if c.kind < 1 ∨ 3 < c.kind then 90
  else if c.kind ≠ 1 ∧ (findR b c.target).isNone then 91
  else if checkR c ≠ 0 ∨ c.kind = 2 then checkR c
  else if c.id ≤ b.high then 97
  else if c.kind = 3 then
    match findR b c.target with
    | none => 91
    | some (m, s) => if m.typ = 5 ∧ meetsR b ⟨0, 0, 0, 0, s, m.typ, c.price⟩ = true then 99 else 0
  else if (c.typ = 1 ∨ c.typ = 5) ∧ b.cap ≤ (b.count : Int) then 98
  else if c.typ = 5 ∧ meetsR b ⟨0, 0, 0, 0, c.side, c.typ, c.price⟩ = true then 99 else 0
def evReject (c : Cm) (code : Int) : Ev := { zE with kind := 2, id := if c.kind = 2 then 0 else c.id, target := if c.kind = 1 then 0 else c.target, code := code }
def evAcked (o : Co) : Ev := { zE with kind := 1, id := o.id, mem := o.mem, side := o.side, typ := o.kind, price := o.price, qty := o.left, peak := o.peak }
def ackR (t : Td) (o : Co) : Td :=
  let u := tell t (evAcked o)
  comesR ({ u.1 with high := o.id }, u.2) o
def doR (b : Bk) (c : Cm) : Td :=
  if refusedR b c ≠ 0 then tell (b, []) (evReject c (refusedR b c))
  else if c.kind = 1 then ackR (b, []) ⟨c.id, c.qty, c.peak, c.mem, c.side, c.typ, c.price⟩
  else match findR b c.target with
    | none => (b, [])
    | some (m, s) =>
      let u := tell (b, []) (evCancel m.id (m.vis + m.hid) (if c.kind = 3 then 2 else 1))
      let t : Td := (u.1.set s (without (sideR b s) m.id), u.2)
      if c.kind = 2 then t else ackR t ⟨c.id, c.qty, c.peak, m.mem, s, m.typ, c.price⟩

/-! ### The program's checker -/
/-- What comes, as the document's engine has it, as an IOC. -/
def Cg.co (c : Cg) (kind : Int) : Co := ⟨c.o.id, c.left, c.o.peak, c.o.mem, c.side, kind, c.o.price⟩
def whole (b : Bk) (c : Cg) : Bool := wholeR b (c.co 3)
/-- The checker. -/
structure Pk where
  b : Bk
  now : Option Cg
  ins : Option (Int × Int × Int)
def musts (b : Bk) (c : Cg) : Option Ev := must (whole b c) b c
/-- An order as it comes to rest. -/
def atRest (c : Cg) : Rs :=
  let v := if 0 < c.o.peak then min c.o.peak c.left else c.left
  { c.o with vis := v, hid := c.left - v }
def settles (b : Bk) (c : Cg) : Bk × Option Cg := match musts b c with
  | some _ => (b, some c)
  | none => if c.left = 0 then (b, none) else (b.set c.side (rests c.side (atRest c) (b.side c.side)), none)
def evAck (e : Ev) : Ev := { zE with seq := e.seq, kind := e.kind, id := e.id, mem := e.mem, side := e.side, typ := e.typ, price := e.price, qty := e.qty, peak := e.peak }
def evRej (e : Ev) : Ev := { zE with seq := e.seq, kind := e.kind, id := e.id, target := e.target, code := e.code }
def evCan (e : Ev) : Ev := { zE with seq := e.seq, kind := e.kind, id := e.id, qty := e.qty, reason := e.reason }
def keeps (typ : Int) : Bool := typ == 1 || typ == 5
def canCome (b : Bk) (e : Ev) (instead : Bool) : Bool :=
  decide (e = evAck e) && decide (e.side = 1 ∨ e.side = 2) && decide (1 ≤ e.typ ∧ e.typ ≤ 5) && decide (0 ≤ e.price ∧ e.price < 262144 ∧ (e.typ = 2 → e.price = 0)) &&
  decide (1 ≤ e.qty ∧ e.qty ≤ 4294967295 ∧ e.peak ≤ e.qty ∧ (e.peak ≠ 0 → keeps e.typ = true ∧ e.qty ≤ 256 * e.peak)) && decide (b.high < e.id) &&
  decide (keeps e.typ = true → instead = false → (b.count : Int) < b.cap) &&
  (decide (e.typ ≠ 5) || (match b.side (far e.side) with | [] => true | p :: _ => !meets e.side e.typ e.price p.price))
def coming (e : Ev) : Cg := ⟨⟨e.id, e.mem, e.typ, e.price, 0, 0, e.peak⟩, e.side, e.typ, e.qty, false, 0, false⟩
/-- An EvAck is taken; the Seq of the book is set by 'add'. -/
def acked (x : Pk) (e : Ev) (instead : Bool) : Int × Pk :=
  if canCome x.b e instead = false then (191, x) else
  let r := settles { x.b with high := e.id } (coming e)
  (0, ⟨r.1, r.2, none⟩)
def rejected (b : Bk) (e : Ev) : Int :=
  if e ≠ evRej e then 191 else
  let known := b.find e.target
  let aimed : Bool := decide (e.target = 0) || known.isSome
  let above : Bool := decide (b.high < e.id)
  let full : Bool := decide (b.cap ≤ (b.count : Int))
  let ok : Bool :=
    if e.code = 90 then true
    else if e.code = 91 then !known.isSome
    else if e.code = 92 ∨ e.code = 93 then decide (e.target = 0)
    else if e.code = 94 ∨ e.code = 95 ∨ e.code = 96 then aimed
    else if e.code = 97 then aimed && !above
    else if e.code = 98 then decide (e.target = 0) && above && full
    else if e.code = 99 then
      above && ((decide (e.target = 0) && decide (0 < b.count) && !full) || (match known with
        | none => false
        | some (s, i) => (match (b.side s)[i]? with | some r => decide (r.typ = 5) | none => false) && decide (0 < (b.side (far s)).length)))
    else false
  if ok then 0 else 195
def cancelled (x : Pk) (e : Ev) : Int × Pk :=
  if e.reason ≠ 1 ∧ e.reason ≠ 2 then (195, x) else
  match x.b.find e.id with
  | none => (192, x)
  | some (s, i) => match (x.b.side s)[i]? with
    | none => (192, x)
    | some o => if e.qty ≠ o.vis + o.hid then (193, x) else if e ≠ evCan e then (191, x)
      else (0, ⟨x.b.set s ((x.b.side s).eraseIdx i), x.now, if e.reason = 2 then some (o.mem, s, o.typ) else x.ins⟩)
def next (b : Bk) (c : Cg) (e : Ev) : Int × Bk × Option Cg :=
  let m := { (musts b c).getD zE with seq := e.seq }
  if e.kind ≠ m.kind then (191, b, some c)
  else if e.id ≠ m.id ∨ e.other ≠ m.other then (192, b, some c)
  else if e.price ≠ m.price then (194, b, some c)
  else if e.qty ≠ m.qty then (193, b, some c)
  else if e.reason ≠ m.reason then (195, b, some c)
  else if e ≠ m then (191, b, some c)
  else let t := takes b c m
    let r := settles t.1 t.2
    (0, r.1, r.2)
def Pk.step (x : Pk) (e : Ev) : Int × Pk := match x.ins with
  | some (m, s, k) => if e.kind ≠ 1 ∨ e.mem ≠ m ∨ e.side ≠ s ∨ e.typ ≠ k then (191, x) else acked x e true
  | none => match x.now with
    | some c => let r := next x.b c e; (r.1, ⟨r.2.1, r.2.2, none⟩)
    | none => if e.kind = 2 then (rejected x.b e, x) else if e.kind = 4 then cancelled x e else if e.kind = 1 then acked x e false else (191, x)
def Pk.add (x : Pk) (e : Ev) : Int × Pk :=
  if e.seq ≠ wrapU (x.b.seq + 1) then (190, x) else
  let r := x.step e
  if r.1 = 0 then (0, { r.2 with b := { r.2.b with seq := e.seq } }) else r
def Pk.isOpen (x : Pk) : Bool := x.now.isSome || x.ins.isSome

/-! ### The document's checker -/
structure Ro where
  on : Bool
  ack : Ev
  left : Int
  last : Int
  both : Bool
  told : Bool
structure Rk where
  b : Bk
  rep : Bool
  was : Rs
  side : Int
  o : Ro
def zO : Ro := ⟨false, zE, 0, 0, false, false⟩
def meetsA (a : Ev) (price : Int) : Bool := if a.typ = 2 then true else if a.side = 1 then decide (price ≤ a.price) else decide (a.price ≤ price)
def insR (side : Int) (o : Rs) : List Rs → List Rs
  | [] => [o]
  | p :: r => if p.price = o.price ∨ (side = 1 ∧ o.price < p.price) ∨ (side = 2 ∧ p.price < o.price) then p :: insR side o r else o :: p :: r
def wholeA (b : Bk) (o : Ro) : Bool := decide (sumTrades (doR { b with high := 0 } ⟨1, 18446744073709551615, 0, o.ack.mem, o.ack.side, 3, o.ack.price, o.left, 0⟩).2 = o.left)
/-- What must come, without its number. -/
def mustR (whole : Bool) (b : Bk) (o : Ro) : Option Ev :=
  if o.ack.typ = 4 ∧ o.told = false ∧ whole = false then some (evCancel o.ack.id o.left 4)
  else match b.side (3 - o.ack.side) with
  | m :: _ =>
    if o.last ≠ 0 ∧ m.id = o.last ∧ m.vis = 0 then some (evFresh m (if m.hid < m.peak then m.hid else m.peak))
    else if o.both = true then some (evCancel o.ack.id o.left 5)
    else if 0 < o.left ∧ meetsA o.ack m.price = true then
      if m.mem ≠ 0 ∧ m.mem = o.ack.mem ∧ b.meet ≠ 0 then (if b.meet = 1 then some (evCancel o.ack.id o.left 5) else some (evCancel m.id (m.vis + m.hid) 5))
      else some { zE with kind := 3, id := o.ack.id, other := m.id, side := o.ack.side, price := m.price, qty := if o.left < m.vis then o.left else m.vis }
    else if 0 < o.left ∧ o.ack.typ ≠ 1 ∧ o.ack.typ ≠ 5 then some (evCancel o.ack.id o.left 3) else none
  | [] =>
    if o.both = true then some (evCancel o.ack.id o.left 5)
    else if 0 < o.left ∧ o.ack.typ ≠ 1 ∧ o.ack.typ ≠ 5 then some (evCancel o.ack.id o.left 3) else none
def mustsR (b : Bk) (o : Ro) : Option Ev := mustR (wholeA b o) b o
def followR (b : Bk) (o : Ro) (e : Ev) : Bk × Ro :=
  let s := 3 - o.ack.side
  let o := { o with told := true }
  if e.kind = 4 then
    if e.id = o.ack.id then (b, { o with left := 0, both := false }) else (b.set s ((b.side s).drop 1), { o with both := decide (b.meet = 3) })
  else match b.side s with
  | [] => (b, o)
  | m :: l =>
    if e.kind = 3 then
      let m' := { m with vis := m.vis - e.qty }
      (b.set s (if m'.vis = 0 ∧ m'.hid = 0 then l else m' :: l), { o with left := o.left - e.qty, last := e.other })
    else if e.kind = 5 then (b.set s (insR s { m with vis := e.qty, hid := m.hid - e.qty } l), { o with last := 0 })
    else (b, o)
def atRestR (o : Ro) : Rs :=
  if 0 < o.ack.peak ∧ o.ack.peak < o.left then ⟨o.ack.id, o.ack.mem, o.ack.typ, o.ack.price, o.ack.peak, o.left - o.ack.peak, o.ack.peak⟩
  else ⟨o.ack.id, o.ack.mem, o.ack.typ, o.ack.price, o.left, 0, o.ack.peak⟩
def endsR (b : Bk) (o : Ro) : Bk × Ro := match mustsR b o with
  | some _ => (b, o)
  | none => (if 0 < o.left then b.set o.ack.side (insR o.ack.side (atRestR o) (b.side o.ack.side)) else b, zO)
def ackedR (x : Rk) (e : Ev) (rep : Bool) : Int × Rk :=
  if e ≠ evAck e ∨ checkR ⟨1, e.id, 0, e.mem, e.side, e.typ, e.price, e.qty, e.peak⟩ ≠ 0 ∨ e.id ≤ x.b.high then (191, x)
  else if (keeps e.typ = true ∧ rep = false ∧ x.b.cap ≤ (x.b.count : Int)) ∨
      (e.typ = 5 ∧ (match x.b.side (3 - e.side) with | [] => false | p :: _ => meetsA e p.price) = true) then (191, x)
  else
    let r := endsR { x.b with seq := e.seq, high := e.id } ⟨true, e, e.qty, 0, false, false⟩
    (0, { x with b := r.1, rep := false, o := r.2 })
def soR (b : Bk) (e : Ev) : Bool :=
  let there := (findR b e.target).isSome
  let none := decide (e.target = 0)
  if e.code = 90 then true
  else if e.code = 91 then !there
  else if e.code = 92 ∨ e.code = 93 then none
  else if e.code = 94 ∨ e.code = 95 ∨ e.code = 96 then none || there
  else if e.code = 97 then (none || there) && decide (e.id ≤ b.high)
  else if e.code = 98 then none && decide (b.high < e.id) && decide (b.cap ≤ (b.count : Int))
  else if e.code = 99 then
    if e.id ≤ b.high then false
    else if none then decide (0 < b.count) && decide ((b.count : Int) < b.cap)
    else match findR b e.target with
      | some (m, s) => decide (m.typ = 5) && decide (0 < (b.side (3 - s)).length)
      | _ => false
  else false
def cancelR (x : Rk) (e : Ev) : Int × Rk :=
  if e.reason ≠ 1 ∧ e.reason ≠ 2 then (195, x) else
  match findR x.b e.id with
  | none => (192, x)
  | some (m, s) => if e.qty ≠ m.vis + m.hid then (193, x) else if e ≠ evCan e then (191, x)
    else (0, { x with b := { x.b.set s (without (x.b.side s) e.id) with seq := e.seq }, rep := decide (e.reason = 2), was := m, side := s })
def beginsR (x : Rk) (e : Ev) : Int × Rk :=
  if e.kind = 2 then (if e ≠ evRej e then (191, x) else if soR x.b e = false then (195, x) else (0, { x with b := { x.b with seq := e.seq } }))
  else if e.kind = 4 then cancelR x e
  else if e.kind = 1 then ackedR x e false
  else (191, x)
def Rk.add (x : Rk) (e : Ev) : Int × Rk :=
  if e.seq ≠ wrapU (x.b.seq + 1) then (190, x)
  else if x.rep = true then
    if e.kind ≠ 1 ∨ e.mem ≠ x.was.mem ∨ e.side ≠ x.side ∨ e.typ ≠ x.was.typ then (191, x) else ackedR x e true
  else if x.o.on = false then beginsR x e
  else
    let m := { (mustsR x.b x.o).getD zE with seq := wrapU (x.b.seq + 1) }
    if e.kind ≠ m.kind then (191, x)
    else if e.id ≠ m.id ∨ e.other ≠ m.other then (192, x)
    else if e.price ≠ m.price then (194, x)
    else if e.qty ≠ m.qty then (193, x)
    else if e.reason ≠ m.reason then (195, x)
    else if e ≠ m then (191, x)
    else
      let f := followR { x.b with seq := e.seq } x.o e
      let r := endsR f.1 f.2
      (0, { x with b := r.1, o := r.2 })
def Rk.isOpen (x : Rk) : Bool := x.rep || x.o.on
end Ck
end Go.Proofs.Ytcnkbhgdcfckoaa
namespace Go.Proofs.Ytcnkbhgdcfckoaa
namespace Ck
/-- What holds of an order that rests, between steps. -/
structure OkR (r : Rs) : Prop where
  vis : 1 ≤ r.vis
  hid : 0 ≤ r.hid
  peak : 0 ≤ r.peak
  sum : r.vis + r.hid ≤ 4294967295
  hpos : 0 < r.hid → 0 < r.peak
def OkL (l : List Rs) : Prop := ∀ r ∈ l, OkR r
structure OkB (b : Bk) : Prop where
  buys : OkL b.buys
  sells : OkL b.sells
theorem OkL.nil : OkL [] := fun _ h => by cases h
theorem OkL.cons {r : Rs} {l : List Rs} (h : OkR r) (hl : OkL l) : OkL (r :: l) := fun x hx => by
  rcases List.mem_cons.1 hx with rfl | hx
  · exact h
  · exact hl x hx
theorem OkL.tail {r : Rs} {l : List Rs} (h : OkL (r :: l)) : OkL l := fun x hx => h x (by simp [hx])
theorem OkL.without {l : List Rs} (h : OkL l) (id : Int) : OkL (without l id) := fun x hx => h x (List.mem_filter.1 hx).1
theorem mem_enq {s : Int} {o x : Rs} : ∀ {l : List Rs}, x ∈ enq s o l → x = o ∨ x ∈ l
  | [], h => by simp [enq] at h; exact .inl h
  | p :: l, h => by
    unfold enq at h
    split at h
    · rcases List.mem_cons.1 h with h | h
      · exact .inl h
      · exact .inr h
    · rcases List.mem_cons.1 h with h | h
      · exact .inr (by simp [h])
      · rcases mem_enq h with h | h
        · exact .inl h
        · exact .inr (by simp [h])
theorem OkL.enq {s : Int} {o : Rs} {l : List Rs} (h : OkL l) (ho : OkR o) : OkL (enq s o l) := fun x hx => by
  rcases mem_enq hx with rfl | hx
  · exact ho
  · exact h x hx
theorem OkB.side {b : Bk} (h : OkB b) (s : Int) : OkL (sideR b s) := by
  unfold sideR
  split
  · exact h.buys
  · split
    · exact h.sells
    · exact OkL.nil
theorem OkB.set {b : Bk} (h : OkB b) (s : Int) {l : List Rs} (hl : OkL l) : OkB (b.set s l) := by
  unfold Bk.set
  split
  · exact ⟨hl, h.sells⟩
  · exact ⟨h.buys, hl⟩
theorem OkB.tell {t : Td} (h : OkB t.1) (e : Ev) : OkB (tell t e).1 := ⟨h.buys, h.sells⟩
theorem stepR_ok {t : Td} {o : Co} (h : OkB t.1) (hl : 0 < o.left) (hu : o.left ≤ 4294967295) : OkB (stepR t o).1.1 ∧ 0 ≤ (stepR t o).2.left ∧ (stepR t o).2.left ≤ 4294967295 := by
  unfold stepR
  cases hs : sideR t.1 (3 - o.side) with
  | nil => exact ⟨h, by simp; omega, hu⟩
  | cons m r =>
    have hl1 := h.side (3 - o.side)
    rw [hs] at hl1
    have hm := hl1 m (by simp)
    simp only
    split
    · unfold stepOwn
      simp only
      split
      · split
        · exact ⟨((h.tell _).set _ (hl1.without _)).tell _, by simp, by simp⟩
        · exact ⟨h.tell _, by simp, by simp⟩
      · split
        · exact ⟨(h.tell _).set _ (hl1.without _), by simp; omega, hu⟩
        · exact ⟨h, by simp; omega, hu⟩
    · have h1 := hm.vis
      have h2 := hm.hid
      have h3 := hm.sum
      have h4 := hm.peak
      have h5 := hm.hpos
      have hq : 0 ≤ o.left - (if m.vis < o.left then m.vis else o.left) := by split <;> omega
      have hq2 : o.left - (if m.vis < o.left then m.vis else o.left) ≤ 4294967295 := by split <;> omega
      have hq3 : 0 ≤ (if m.vis < o.left then m.vis else o.left) := by split <;> omega
      unfold stepTrade
      simp only
      generalize (if m.vis < o.left then m.vis else o.left) = q at *
      split
      · rename_i hv
        exact ⟨(h.tell _).set _ (OkL.cons ⟨by simp; omega, h2, h4, by simp; omega, h5⟩ (hl1.without _)), hq, hq2⟩
      · split
        · rename_i hh
          have := h5 hh
          refine ⟨((h.tell _).tell _).set _ ((hl1.without _).enq ⟨?_, ?_, h4, ?_, fun _ => this⟩), hq, hq2⟩
          · simp only; split <;> omega
          · simp only; split <;> omega
          · simp only; split <;> omega
        · exact ⟨(h.tell _).set _ (hl1.without _), hq, hq2⟩
theorem amount_nonneg {l : List Rs} (h : OkL l) : 0 ≤ amount l := by
  induction l with
  | nil => simp [amount]
  | cons r l ih =>
    have h1 := h r (by simp)
    have h2 := ih h.tail
    have := h1.vis
    have := h1.hid
    unfold amount
    omega
theorem amount_without {l : List Rs} (h : OkL l) (id : Int) : amount (without l id) ≤ amount l := by
  induction l with
  | nil => simp [without, amount]
  | cons r l ih =>
    have h1 := h r (by simp)
    have h2 := ih h.tail
    have := h1.vis
    have := h1.hid
    unfold without at h2 ⊢
    rw [List.filter_cons]
    split
    · unfold amount; omega
    · show amount _ ≤ r.vis + r.hid + amount l; omega
theorem amount_without_head {m : Rs} {l : List Rs} (h : OkL (m :: l)) : amount (without (m :: l) m.id) ≤ amount l := by
  have h2 := amount_without h.tail m.id
  unfold without at h2 ⊢
  rw [List.filter_cons, if_neg (by simp)]
  exact h2
theorem amount_enq (s : Int) (o : Rs) : ∀ l : List Rs, amount (enq s o l) = o.vis + o.hid + amount l
  | [] => by simp [enq, amount]
  | p :: l => by
    unfold enq
    split
    · simp [amount]
    · simp only [amount]; rw [amount_enq s o l]; omega
theorem sideR_set {b : Bk} {s : Int} {l : List Rs} (hs : s = 1 ∨ s = 2) : sideR (b.set s l) s = l := by
  rcases hs with rfl | rfl <;> simp [sideR, Bk.set]
theorem sideR_tell {t : Td} {e : Ev} {s : Int} : sideR (tell t e).1 s = sideR t.1 s := rfl
theorem stepR_side (t : Td) (o : Co) : (stepR t o).2.side = o.side := by
  unfold stepR
  split
  · rfl
  · split
    · unfold stepOwn; simp only; split <;> rfl
    · unfold stepTrade; simp only
      generalize (if _ < o.left then _ else o.left) = q
      split
      · rfl
      · split <;> rfl
theorem stepR_todo {t : Td} {o : Co} (h : OkB t.1) (hs : o.side = 1 ∨ o.side = 2) (hl : 0 < o.left) (hm : t.1.meet = 0 ∨ t.1.meet = 1 ∨ t.1.meet = 2 ∨ t.1.meet = 3) (hne : meetsR t.1 o = true) :
    todoR (stepR t o).1.1 (stepR t o).2 < todoR t.1 o ∨ (stepR t o).2.left = 0 := by
  have hf : (3 - o.side) = 1 ∨ (3 - o.side) = 2 := by omega
  unfold todoR
  rw [stepR_side]
  unfold stepR
  unfold meetsR at hne
  cases hd : sideR t.1 (3 - o.side) with
  | nil => rw [hd] at hne; cases hne
  | cons m r =>
    have hl1 := h.side (3 - o.side)
    rw [hd] at hl1
    have hm1 := hl1 m (by simp)
    have h1 := hm1.vis
    have h2 := hm1.hid
    have hr := amount_nonneg hl1.tail
    have hw := amount_without_head hl1
    have hw0 := amount_nonneg (hl1.without m.id)
    simp only
    split
    · rename_i hown
      unfold stepOwn
      simp only
      split
      · right; rfl
      · rename_i h13
        have h2' : t.1.meet = 2 := by
          unfold ownR at hown
          simp at hown
          omega
        left
        rw [if_pos (.inl h2')]
        simp only
        rw [sideR_set hf]
        show (amount _).toNat < (m.vis + m.hid + amount r).toNat
        omega
    · have hq3 : 0 < (if m.vis < o.left then m.vis else o.left) := by split <;> omega
      have hq4 : (if m.vis < o.left then m.vis else o.left) ≤ m.vis := by split <;> omega
      unfold stepTrade
      simp only
      generalize (if m.vis < o.left then m.vis else o.left) = q at *
      left
      split
      · simp only
        rw [sideR_set hf]
        show (m.vis - q + m.hid + amount _).toNat < (m.vis + m.hid + amount r).toNat
        omega
      · split
        · simp only
          rw [sideR_set hf, amount_enq]
          simp only
          show _ < (m.vis + m.hid + amount r).toNat
          split <;> omega
        · simp only
          rw [sideR_set hf]
          show (amount _).toNat < (m.vis + m.hid + amount r).toNat
          omega
theorem stepR_meet (t : Td) (o : Co) : (stepR t o).1.1.meet = t.1.meet := by
  have hset : ∀ (b : Bk) (s : Int) (l : List Rs), (b.set s l).meet = b.meet := fun b s l => by unfold Bk.set; split <;> rfl
  unfold stepR
  split
  · rfl
  · split
    · unfold stepOwn; simp only; split
      · split
        · simp [tell, hset]
        · rfl
      · split
        · simp [tell, hset]
        · rfl
    · unfold stepTrade; simp only
      generalize (if _ < o.left then _ else o.left) = q
      split
      · simp [tell, hset]
      · split <;> simp [tell, hset]
theorem todoR_pos {b : Bk} {o : Co} (h : OkB b) (hne : meetsR b o = true) : 1 ≤ todoR b o := by
  unfold meetsR at hne
  unfold todoR
  cases hd : sideR b (3 - o.side) with
  | nil => rw [hd] at hne; cases hne
  | cons m r =>
    have hl1 := h.side (3 - o.side)
    rw [hd] at hl1
    have hm1 := hl1 m (by simp)
    have h1 := hm1.vis
    have h2 := hm1.hid
    have hr := amount_nonneg hl1.tail
    unfold amount
    omega
end Ck
end Go.Proofs.Ytcnkbhgdcfckoaa
namespace Go.Proofs.Ytcnkbhgdcfckoaa
namespace Ck
def num (s : Int) : List Ev → List Ev
  | [] => []
  | e :: l => { e with seq := wrapU (s + 1) } :: num (wrapU (s + 1)) l
def seqs (s : Int) : Nat → Int
  | 0 => s
  | n + 1 => seqs (wrapU (s + 1)) n
theorem num_append (s : Int) : ∀ (l m : List Ev), num s (l ++ m) = num s l ++ num (seqs s l.length) m := by
  intro l
  induction l generalizing s with
  | nil => intro m; rfl
  | cons e l ih => intro m; simp only [List.cons_append, num, ih, List.length_cons, seqs]
theorem seqs_add (s : Int) (a b : Nat) : seqs s (a + b) = seqs (seqs s a) b := by
  induction a generalizing s with
  | zero => simp [seqs]
  | succ a ih => rw [Nat.succ_add]; simp only [seqs]; exact ih _
theorem num_len (s : Int) (l : List Ev) : (num s l).length = l.length := by
  induction l generalizing s with
  | nil => rfl
  | cons e l ih => simp [num, ih]
def plays : Bk → Cg → List Ev → Bk → Cg → Prop
  | b, c, [], b', c' => b' = b ∧ c' = c
  | b, c, m :: l, b', c' => must true b c = some m ∧ plays (takes b c m).1 (takes b c m).2 l b' c'
theorem plays_append {b1 : Bk} {c1 : Cg} {l m : List Ev} {b2 : Bk} {c2 : Cg} : ∀ {b : Bk} {c : Cg}, plays b c l b1 c1 → plays b1 c1 m b2 c2 → plays b c (l ++ m) b2 c2 := by
  induction l with
  | nil => intro b c h k; obtain ⟨rfl, rfl⟩ := h; exact k
  | cons e l ih => intro b c h k; exact ⟨h.1, ih h.2 k⟩
theorem takes_id (b : Bk) (c : Cg) (e : Ev) : (takes b c e).2.o = c.o ∧ (takes b c e).2.side = c.side ∧ (takes b c e).2.kind = c.kind ∧ (takes b c e).2.traded = true := by
  unfold takes
  simp only
  split
  · split <;> simp
  · split
    · split
      · simp
      · split
        · simp
        · split <;> simp
    · split <;> simp
theorem plays_id {l : List Ev} {b1 : Bk} {c1 : Cg} : ∀ {b : Bk} {c : Cg}, plays b c l b1 c1 → c1.o = c.o ∧ c1.side = c.side ∧ c1.kind = c.kind := by
  induction l with
  | nil => intro b c h; obtain ⟨rfl, rfl⟩ := h; exact ⟨rfl, rfl, rfl⟩
  | cons e l ih =>
    intro b c h
    obtain ⟨h1, h2, h3⟩ := ih h.2
    obtain ⟨k1, k2, k3, _⟩ := takes_id b c e
    exact ⟨h1.trans k1, h2.trans k2, h3.trans k3⟩
def noOwn (c : Cg) (l : List Ev) : Prop := ∀ m ∈ l, ¬ (m.kind = 4 ∧ m.id = c.o.id)
theorem sum_nil : sumTrades [] = 0 := rfl
theorem sum_cons (e : Ev) (l : List Ev) : sumTrades (e :: l) = (if e.kind = 3 then e.qty else 0) + sumTrades l := by simp [sumTrades]
theorem sum_append (l m : List Ev) : sumTrades (l ++ m) = sumTrades l + sumTrades m := by simp [sumTrades]
theorem sum_num (s : Int) (l : List Ev) : sumTrades (num s l) = sumTrades l := by
  induction l generalizing s with
  | nil => rfl
  | cons e l ih => simp only [num, sum_cons, ih]
theorem wholeGo_succ (n : Nat) (b : Bk) (c : Cg) (left : Int) : wholeGo (n + 1) b c left = match must true b c with
    | none => decide (left = 0)
    | some m => if m.kind = 4 ∧ m.id = c.o.id then decide (left = 0)
      else wholeGo n (takes b c m).1 (takes b c m).2 (if m.kind = 3 then left - m.qty else left) := rfl
theorem go_plays {l : List Ev} {b1 : Bk} {c1 : Cg} : ∀ {b : Bk} {c : Cg} {n : Nat} {left : Int}, plays b c l b1 c1 → noOwn c l → wholeGo (l.length + n) b c left = wholeGo n b1 c1 (left - sumTrades l) := by
  induction l with
  | nil => intro b c n left h _; obtain ⟨rfl, rfl⟩ := h; simp [sum_nil]
  | cons e l ih =>
    intro b c n left h hn
    have h1 : ¬ (e.kind = 4 ∧ e.id = c.o.id) := hn e (by simp)
    rw [List.length_cons, show l.length + 1 + n = (l.length + n) + 1 by omega]
    rw [wholeGo_succ, h.1]
    simp only
    have e1 : (if e.kind = 3 then left - e.qty else left) - sumTrades l = left - ((if e.kind = 3 then e.qty else 0) + sumTrades l) := by split <;> omega
    rw [if_neg h1, ih h.2 (fun m hm => by rw [(takes_id b c e).1]; exact hn m (by simp [hm])), sum_cons, e1]
/-- The way of wholeGo ends. -/
def Ends : Nat → Bk → Cg → Prop
  | 0, _, _ => False
  | n + 1, b, c => match must true b c with
    | none => True
    | some m => (m.kind = 4 ∧ m.id = c.o.id) ∨ Ends n (takes b c m).1 (takes b c m).2
theorem ends_plays {l : List Ev} {b1 : Bk} {c1 : Cg} : ∀ {b : Bk} {c : Cg} {n : Nat}, plays b c l b1 c1 → Ends n b1 c1 → Ends (l.length + n) b c := by
  induction l with
  | nil => intro b c n h k; obtain ⟨rfl, rfl⟩ := h; simpa using k
  | cons e l ih =>
    intro b c n h k
    rw [List.length_cons, show l.length + 1 + n = (l.length + n) + 1 by omega]
    unfold Ends
    rw [h.1]
    exact .inr (ih h.2 k)
end Ck
end Go.Proofs.Ytcnkbhgdcfckoaa
namespace Go.Proofs.Ytcnkbhgdcfckoaa
namespace Ck
theorem Bk.side_set {b : Bk} {s : Int} {l : List Rs} : (b.set s l).side s = l := by
  unfold Bk.set Bk.side
  split <;> rfl
theorem Bk.set_fields (b : Bk) (s : Int) (l : List Rs) : (b.set s l).cap = b.cap ∧ (b.set s l).meet = b.meet ∧ (b.set s l).high = b.high ∧ (b.set s l).seq = b.seq := by
  unfold Bk.set
  split <;> exact ⟨rfl, rfl, rfl, rfl⟩
theorem Bk.side_other {b : Bk} {s t : Int} {l : List Rs} (hs : (s = 1 ∧ t = 2) ∨ (s = 2 ∧ t = 1)) : (b.set s l).side t = b.side t := by
  rcases hs with ⟨rfl, rfl⟩ | ⟨rfl, rfl⟩ <;> rfl
theorem Bk.set_with (b : Bk) (s : Int) (l : List Rs) (q h : Int) : ({ b with seq := q, high := h } : Bk).set s l = { b.set s l with seq := q, high := h } := by
  unfold Bk.set
  split <;> rfl
theorem Bk.ok.side {b : Bk} (h : b.ok) (s : Int) : ∀ r ∈ b.side s, r.ok mx := by
  unfold Bk.side
  split
  · exact h.buys
  · exact h.sells
theorem sideR_eq {b : Bk} {s : Int} (hs : s = 1 ∨ s = 2) : sideR b s = b.side s := by
  rcases hs with rfl | rfl <;> rfl
/-- A side of a book is another list, of the same orders or of fewer. -/
theorem Bk.ok.set {b : Bk} (h : b.ok) (s : Int) {l : List Rs} (hl : ∀ r ∈ l, r.ok mx) (pre : List Int) (hp : (pre ++ l.map Rs.id).Perm ((b.side s).map Rs.id)) : (b.set s l).ok := by
  have hlen : l.length ≤ (b.side s).length := by
    have := hp.length_eq
    simp at this
    omega
  have hone := h.one
  rw [List.map_append] at hone
  have hroom := h.room
  unfold Bk.count at hroom
  unfold Bk.side at hp hlen
  unfold Bk.set
  split
  · rename_i hs
    rw [if_pos hs] at hp hlen
    refine ⟨h.cap, h.meet, h.high, h.seq, hl, h.sells, ?_, by unfold Bk.count; simp only; omega⟩
    have h1 := (hp.append_right (b.sells.map Rs.id)).nodup_iff.2 hone
    rw [List.append_assoc] at h1
    rw [List.map_append]
    exact (List.nodup_append.1 h1).2.1
  · rename_i hs
    rw [if_neg hs] at hp hlen
    refine ⟨h.cap, h.meet, h.high, h.seq, h.buys, hl, ?_, by unfold Bk.count; simp only; omega⟩
    have h1 := ((hp.append_left (b.buys.map Rs.id)).nodup_iff.2 hone)
    rw [List.map_append]
    have h2 : (b.buys.map Rs.id ++ (pre ++ l.map Rs.id)).Perm (pre ++ (b.buys.map Rs.id ++ l.map Rs.id)) := by
      rw [← List.append_assoc, ← List.append_assoc]
      exact (List.perm_append_comm).append_right _
    exact (List.nodup_append.1 (h2.nodup_iff.1 h1)).2.1
theorem rests_perm (s : Int) (o : Rs) : ∀ l : List Rs, (rests s o l).Perm (o :: l)
  | [] => List.Perm.refl _
  | p :: l => by
    unfold rests
    split
    · exact List.Perm.refl _
    · exact ((rests_perm s o l).cons p).trans (List.Perm.swap _ _ _)
theorem rests_len (s : Int) (o : Rs) (l : List Rs) : (rests s o l).length = l.length + 1 := by simpa using (rests_perm s o l).length_eq
theorem mem_rests {s : Int} {o x : Rs} {l : List Rs} : x ∈ rests s o l ↔ x = o ∨ x ∈ l := by simpa using (rests_perm s o l).mem_iff (a := x)
theorem enq_rests {s : Int} (hs : s = 1 ∨ s = 2) (o : Rs) : ∀ l : List Rs, enq s o l = rests s o l
  | [] => rfl
  | p :: l => by
    unfold enq rests
    have : better s o.price p.price = ahead s o.price p.price := by
      rcases hs with rfl | rfl <;> simp [better, ahead]
    rw [this, enq_rests hs o l]
theorem insR_rests {s : Int} (hs : s = 1 ∨ s = 2) (o : Rs) : ∀ l : List Rs, insR s o l = rests s o l
  | [] => rfl
  | p :: l => by
    unfold insR rests
    rw [insR_rests hs o l]
    rcases hs with rfl | rfl
    · by_cases h : p.price < o.price
      · rw [if_neg (by omega), if_pos (by simp [ahead, h])]
      · rw [if_pos (by omega), if_neg (by simp [ahead, h])]
    · by_cases h : o.price < p.price
      · rw [if_neg (by omega), if_pos (by simp [ahead, h])]
      · rw [if_pos (by omega), if_neg (by simp [ahead, h])]
theorem side_ids {b : Bk} (h : b.ok) (s : Int) : ((b.side s).map Rs.id).Nodup := by
  have hone := h.one
  rw [List.map_append] at hone
  have h1 := List.nodup_append.1 hone
  unfold Bk.side
  split
  · exact h1.1
  · exact h1.2.1
theorem side_mem {b : Bk} {s : Int} {r : Rs} (h : r ∈ b.side s) : r ∈ b.buys ++ b.sells := by
  unfold Bk.side at h
  split at h
  · simp [h]
  · simp [h]
theorem without_head {m : Rs} {r : List Rs} (h : ((m :: r).map Rs.id).Nodup) : without (m :: r) m.id = r := by
  unfold without
  rw [List.filter_cons, if_neg (by simp), List.filter_eq_self.2]
  intro x hx
  rw [List.map_cons, List.nodup_cons] at h
  simp only [bne_iff_ne, ne_eq]
  intro e
  exact h.1 (e ▸ List.mem_map_of_mem hx)
theorem mem_set {b : Bk} {s : Int} {l : List Rs} {x : Rs} (h : x ∈ (b.set s l).buys ++ (b.set s l).sells) : x ∈ l ∨ x ∈ b.buys ++ b.sells := by
  unfold Bk.set at h
  split at h
  · simp at h ⊢
    rcases h with h | h
    · exact .inl h
    · exact .inr (.inr h)
  · simp at h ⊢
    rcases h with h | h
    · exact .inr (.inl h)
    · exact .inl h
/-- A book without an order in the midst. -/
structure PI (b : Bk) (c : Cg) : Prop where
  ok : b.ok
  cg : Cg.ok b c
  empty : c.empty = 0
theorem PI.vis {b : Bk} {c : Cg} (h : PI b c) {r : Rs} (hr : r ∈ b.buys ++ b.sells) : 1 ≤ r.vis := by
  have h1 : r.ok mx := by
    rcases List.mem_append.1 hr with h1 | h1
    · exact h.ok.buys r h1
    · exact h.ok.sells r h1
  have h2 := h1.vis
  have h3 := h1.id.1
  by_cases h0 : r.vis = 0
  · have := h.cg.shows r hr h0
    have := h.empty
    omega
  · omega
structure Like (c : Cg) (o : Co) : Prop where
  left : o.left = c.left
  mem : o.mem = c.o.mem
  side : o.side = c.side
  kind : o.kind = c.kind
  price : o.price = c.o.price
theorem meets_eq {c : Cg} {o : Co} (hl : Like c o) (hs : c.side = 1 ∨ c.side = 2) (p : Int) : (o.kind == 2 || p == o.price || (if o.side = 1 then decide (p < o.price) else decide (o.price < p))) = meets c.side c.kind c.o.price p := by
  rw [hl.kind, hl.price, hl.side]
  unfold meets ahead
  rcases hs with h | h
  · rw [h]
    by_cases h1 : c.kind = 2
    · simp [h1]
    · have : (c.kind == 2) = false := by simp [h1]
      rw [this]
      by_cases h2 : c.o.price < p
      · have h3 : ¬ p = c.o.price := by omega
        have h4 : ¬ p < c.o.price := by omega
        simp [h2, h3, h4]
      · have h5 : p = c.o.price ∨ p < c.o.price := by omega
        rcases h5 with h5 | h5
        · simp [h5]
        · simp [h5, h2]
  · rw [h]
    by_cases h1 : c.kind = 2
    · simp [h1]
    · have : (c.kind == 2) = false := by simp [h1]
      rw [this]
      by_cases h2 : p < c.o.price
      · have h3 : ¬ p = c.o.price := by omega
        have h4 : ¬ c.o.price < p := by omega
        simp [h2, h3, h4]
      · have h5 : p = c.o.price ∨ c.o.price < p := by omega
        rcases h5 with h5 | h5
        · simp [h5]
        · simp [h5, h2]
theorem meetsR_first {b : Bk} {c : Cg} {o : Co} (hl : Like c o) (hs : c.side = 1 ∨ c.side = 2) (q h : Int) : meetsR { b with seq := q, high := h } o = (first b c).isSome := by
  unfold meetsR first
  have hf : sideR { b with seq := q, high := h } (3 - o.side) = b.side (far c.side) := by
    rw [hl.side, sideR_eq (by omega)]
    rfl
  rw [hf]
  cases b.side (far c.side) with
  | nil => rfl
  | cons p r =>
    simp only
    rw [meets_eq hl hs]
    cases meets c.side c.kind c.o.price p.price <;> rfl
end Ck
end Go.Proofs.Ytcnkbhgdcfckoaa
namespace Go.Proofs.Ytcnkbhgdcfckoaa
namespace Ck
section
variable {b : Bk} {c : Cg} {m : Rs} {r : List Rs}
theorem must_at (he : c.empty = 0) (hm : c.met = false) (hl : 0 < c.left) (hd : b.side (far c.side) = m :: r) (hx : meets c.side c.kind c.o.price m.price = true) :
    must true b c = if own b c m = true then (if b.meet = 1 then some (evCancel c.o.id c.left 5) else some (evCancel m.id (m.vis + m.hid) 5))
      else some { zE with kind := 3, id := c.o.id, other := m.id, side := c.side, price := m.price, qty := min c.left m.vis } := by
  have h0 : c.left ≠ 0 := by omega
  have hf : first b c = some m := by unfold first; rw [hd]; simp only; rw [if_pos hx]
  unfold must
  rw [if_neg (by rw [he]; simp), if_neg (by simp), if_neg h0, if_neg (by rw [hm]; simp), hf]
theorem must_met (he : c.empty = 0) (hm : c.met = true) (hl : 0 < c.left) : must true b c = some (evCancel c.o.id c.left 5) := by
  have h0 : c.left ≠ 0 := by omega
  unfold must
  rw [if_neg (by rw [he]; simp), if_neg (by simp), if_neg h0, if_pos hm]
theorem must_empty (he : c.empty ≠ 0) (hd : b.side (far c.side) = m :: r) : must true b c = some (evFresh m (min m.peak m.hid)) := by
  unfold must
  rw [if_pos he, hd]
  rfl
theorem must_none (he : c.empty = 0) (hl : c.left = 0) : must true b c = none := by
  unfold must
  rw [if_neg (by rw [he]; simp), if_neg (by simp), if_pos hl]
theorem must_end (he : c.empty = 0) (hm : c.met = false) (hl : 0 < c.left) (hf : first b c = none) : must true b c = if c.kind = 1 ∨ c.kind = 5 then none else some (evCancel c.o.id c.left 3) := by
  have h0 : c.left ≠ 0 := by omega
  unfold must
  rw [if_neg (by rw [he]; simp), if_neg (by simp), if_neg h0, if_neg (by rw [hm]; simp), hf]
theorem takes_own (q why : Int) : takes b c (evCancel c.o.id q why) = (b, { c with traded := true, left := 0 }) := by
  unfold takes evCancel
  simp
theorem takes_cancel {id q why : Int} (h : id ≠ c.o.id) : takes b c (evCancel id q why) = (b.set (far c.side) ((b.side (far c.side)).drop 1), { c with traded := true, met := decide (b.meet = 3) }) := by
  unfold takes evCancel
  simp [h]
theorem takes_fresh (n : Int) (hd : b.side (far c.side) = m :: r) : takes b c (evFresh m n) = (b.set (far c.side) (rests (far c.side) { m with vis := n, hid := m.hid - n } r), { c with traded := true, empty := 0 }) := by
  unfold takes evFresh
  simp [hd]
theorem takes_trade (e : Ev) (hk : e.kind = 3) (hd : b.side (far c.side) = m :: r) : takes b c e =
    (if m.vis - e.qty = 0 ∧ 0 < m.hid then (b.set (far c.side) ({ m with vis := m.vis - e.qty } :: r), { c with traded := true, left := c.left - e.qty, empty := m.id })
    else if m.vis - e.qty = 0 then (b.set (far c.side) r, { c with traded := true, left := c.left - e.qty })
    else (b.set (far c.side) ({ m with vis := m.vis - e.qty } :: r), { c with traded := true, left := c.left - e.qty })) := by
  unfold takes
  simp [hk, hd]
theorem far_or (hs : c.side = 1 ∨ c.side = 2) : far c.side = 1 ∨ far c.side = 2 := by unfold far; omega
/-- The order that comes is still a fit one, behind a change of the other side. -/
theorem Cg.ok.next (h : Cg.ok b c) {l : List Rs} {c1 : Cg} (ho : c1.o = c.o) (hs : c1.side = c.side) (hk : c1.kind = c.kind) (hl : 0 ≤ c1.left ∧ c1.left ≤ 4294967295)
    (hlen : l.length ≤ (b.side (far c.side)).length) (hid : ∀ x ∈ l, x.id ∈ (b.buys ++ b.sells).map Rs.id)
    (hsh : ∀ x ∈ (b.set (far c.side) l).buys ++ (b.set (far c.side) l).sells, x.vis = 0 → x.id = c1.empty)
    (he : c1.empty = 0 ∨ ∃ r l', l = r :: l' ∧ r.id = c1.empty ∧ r.vis = 0) : Cg.ok (b.set (far c.side) l) c1 := by
  obtain ⟨f1, f2, f3, f4⟩ := b.set_fields (far c.side) l
  refine ⟨hs ▸ h.side, hk ▸ h.kind, hl, ho ▸ h.id, ho ▸ h.mem, ho ▸ h.typ, ho ▸ h.price, ho ▸ h.zero, ho ▸ h.peak, ?_, hsh, ?_, ?_⟩
  · rw [ho]
    intro hm
    obtain ⟨x, hx, e⟩ := List.mem_map.1 hm
    rcases mem_set hx with hx | hx
    · exact h.ids (e ▸ hid x hx)
    · exact h.ids (e ▸ List.mem_map_of_mem hx)
  · rw [hs, Bk.side_set]
    exact he
  · intro hr
    have := h.room (hk ▸ hr)
    have hc : (b.set (far c.side) l).count ≤ b.count := by
      unfold Bk.count Bk.set
      unfold Bk.side at hlen
      split
      · rename_i hq
        rw [if_pos hq] at hlen
        simp only
        omega
      · rename_i hq
        rw [if_neg hq] at hlen
        simp only
        omega
    omega
end
theorem perm_tail {m : Rs} {r : List Rs} {b : Bk} {s : Int} (hd : b.side s = m :: r) : ([m.id] ++ r.map Rs.id).Perm ((b.side s).map Rs.id) := by
  rw [hd]; exact List.Perm.refl _
theorem perm_same {m m' : Rs} {r : List Rs} {b : Bk} {s : Int} (hd : b.side s = m :: r) (hm : m'.id = m.id) : ([] ++ (m' :: r).map Rs.id).Perm ((b.side s).map Rs.id) := by
  rw [hd]; simp [hm]
theorem perm_rests {m m' : Rs} {r : List Rs} {b : Bk} {s : Int} (hd : b.side s = m :: r) (hm : m'.id = m.id) : ([] ++ (rests s m' r).map Rs.id).Perm ((b.side s).map Rs.id) := by
  rw [hd, List.nil_append, List.map_cons, ← hm]
  exact (rests_perm s m' r).map Rs.id
/-- What a step comes to. -/
structure Stepped (b : Bk) (c : Cg) (o : Co) (s h : Int) (l : List Ev) (E : List Ev) (b1 : Bk) (c1 : Cg) : Prop where
  plays : plays b c E b1 c1
  some : 1 ≤ E.length
  pi : PI b1 c1
  met : c1.met = false ∨ c1.left = 0
  traded : c1.traded = true
  seq : b1.seq = b.seq
  high : b1.high = b.high
  cap : b1.cap = b.cap
  meet : b1.meet = b.meet
  book : (stepR ({ b with seq := s, high := h }, l) o).1.1 = { b1 with seq := seqs s E.length, high := h }
  left : (stepR ({ b with seq := s, high := h }, l) o).2 = { o with left := c1.left }
  sum : sumTrades (stepR ({ b with seq := s, high := h }, l) o).1.2 = sumTrades l + sumTrades E
  told : o.id = c.o.id → (stepR ({ b with seq := s, high := h }, l) o).1.2 = l ++ num s E
  ends : noOwn c E ∨ (c1.left = 0 ∧ ∃ E0 m b0 c0, E = E0 ++ [m] ∧ noOwn c E0 ∧ Ck.plays b c E0 b0 c0 ∧ must true b0 c0 = Option.some m ∧ m.kind = 4 ∧ m.id = c.o.id)
theorem sum_one_not {e : Ev} (h : e.kind ≠ 3) : sumTrades [e] = 0 := by simp [sumTrades, h]
theorem Bk.set_set (b : Bk) (s : Int) (l m : List Rs) : (b.set s l).set s m = b.set s m := by
  unfold Bk.set
  split
  · simp
  · rename_i h; simp [h]
theorem Cg.ok.same {b : Bk} {c : Cg} (h : Cg.ok b c) {c1 : Cg} (ho : c1.o = c.o) (hs : c1.side = c.side) (hk : c1.kind = c.kind) (he : c1.empty = c.empty) (hl : 0 ≤ c1.left ∧ c1.left ≤ 4294967295) : Cg.ok b c1 :=
  ⟨hs ▸ h.side, hk ▸ h.kind, hl, ho ▸ h.id, ho ▸ h.mem, ho ▸ h.typ, ho ▸ h.price, ho ▸ h.zero, ho ▸ h.peak, ho ▸ h.ids, fun r hr hv => he ▸ h.shows r hr hv, by rw [he, hs]; exact h.empty, fun hr => h.room (hk ▸ hr)⟩
theorem num_one (s : Int) (e : Ev) : num s [e] = [{ e with seq := wrapU (s + 1) }] := rfl
theorem num_two (s : Int) (e f : Ev) : num s [e, f] = [{ e with seq := wrapU (s + 1) }, { f with seq := wrapU (wrapU (s + 1) + 1) }] := rfl
theorem step_plays {b : Bk} {c : Cg} {o : Co} {s h : Int} {l : List Ev} (hp : PI b c) (hmet : c.met = false) (hl : 0 < c.left) (ho : Like c o) (hne : meetsR { b with seq := s, high := h } o = true) :
    ∃ E b1 c1, Stepped b c o s h l E b1 c1 := by
  have hs := hp.cg.side
  rw [meetsR_first ho hs] at hne
  obtain ⟨m, r, hd, hx⟩ : ∃ m r, b.side (far c.side) = m :: r ∧ meets c.side c.kind c.o.price m.price = true := by
    unfold first at hne
    cases hd : b.side (far c.side) with
    | nil => rw [hd] at hne; cases hne
    | cons m r =>
      rw [hd] at hne
      simp only at hne
      by_cases hx : meets c.side c.kind c.o.price m.price = true
      · exact ⟨m, r, rfl, hx⟩
      · rw [if_neg hx] at hne; cases hne
  have hfr := far_or hs
  have hmok := hp.ok.side (far c.side) m (by rw [hd]; simp)
  have hmem : m ∈ b.buys ++ b.sells := side_mem (s := far c.side) (by rw [hd]; simp)
  have hv := hp.vis hmem
  have hid : m.id ≠ c.o.id := fun e => hp.cg.ids (e ▸ List.mem_map_of_mem hmem)
  have hid0 : m.id ≠ 0 := by have := hmok.id.1; omega
  have hw : without (m :: r) m.id = r := without_head (by rw [← hd]; exact side_ids hp.ok _)
  have hf3 : 3 - o.side = far c.side := by rw [ho.side]; rfl
  have hstep : stepR (({ b with seq := s, high := h } : Bk), l) o = if own b c m = true then stepOwn (({ b with seq := s, high := h } : Bk), l) o m (m :: r) else stepTrade (({ b with seq := s, high := h } : Bk), l) o m (m :: r) := by
    have h1 : sideR ({ b with seq := s, high := h } : Bk) (3 - o.side) = m :: r := by rw [hf3, sideR_eq hfr]; exact hd
    have h2 : ownR ({ b with seq := s, high := h } : Bk) o m = own b c m := by
      unfold ownR own
      rw [ho.mem]
      simp only
      cases (m.mem == c.o.mem) <;> cases (m.mem != 0) <;> rfl
    unfold stepR
    simp only
    rw [h1]
    simp only
    rw [h2]
  have hmust := must_at hp.empty hmet hl hd hx
  have hmeet := hp.ok.meet
  have hr : ∀ x ∈ r, x ∈ b.side (far c.side) := fun x hx => by rw [hd]; simp [hx]
  have hrid : ∀ x ∈ r, x.id ∈ (b.buys ++ b.sells).map Rs.id := fun x hx => List.mem_map_of_mem (side_mem (hr x hx))
  have hrok : ∀ x ∈ r, x.ok mx := fun x hx => hp.ok.side _ x (hr x hx)
  have hmid : m.id ∈ (b.buys ++ b.sells).map Rs.id := List.mem_map_of_mem hmem
  obtain ⟨g1, g2, g3, g4⟩ := b.set_fields (far c.side) r
  have hlen : r.length ≤ (b.side (far c.side)).length := by rw [hd]; simp
  have hokr : (b.set (far c.side) r).ok := hp.ok.set _ hrok [m.id] (perm_tail hd)
  have hshr : ∀ e, e = (0 : Int) → ∀ x ∈ (b.set (far c.side) r).buys ++ (b.set (far c.side) r).sells, x.vis = 0 → x.id = e := fun e _ x hx hx0 => by
    rcases mem_set hx with h1 | h1
    · have := hp.vis (side_mem (hr x h1)); omega
    · have := hp.vis h1; omega
  by_cases hown : own b c m = true
  · rw [if_pos hown] at hmust hstep
    have hm0 : b.meet ≠ 0 := by unfold own at hown; simp at hown; exact hown.2
    rcases (by omega : b.meet = 1 ∨ b.meet = 2 ∨ b.meet = 3) with h1 | h1 | h1
    · rw [if_pos h1] at hmust
      have hst : stepR (({ b with seq := s, high := h } : Bk), l) o = (tell (({ b with seq := s, high := h } : Bk), l) (evCancel o.id o.left 5), { o with left := 0 }) := by
        rw [hstep]
        unfold stepOwn
        simp only
        rw [if_pos (.inl h1), if_neg (by omega)]
      refine ⟨[evCancel c.o.id c.left 5], b, { c with traded := true, left := 0 }, ⟨⟨hmust, by rw [takes_own]; exact ⟨rfl, rfl⟩⟩, by simp, ⟨hp.ok, hp.cg.same rfl rfl rfl rfl ⟨by simp, by simp⟩, hp.empty⟩, .inr rfl, rfl, rfl, rfl, rfl, rfl, by rw [hst]; rfl, by rw [hst], ?_, ?_, ?_⟩⟩
      · rw [hst]; simp only [tell, sum_append]; congr 1
      · intro hi; rw [hst, hi, ho.left]; rfl
      · exact .inr ⟨rfl, [], _, b, c, rfl, (fun _ h => by cases h), ⟨rfl, rfl⟩, hmust, rfl, rfl⟩
    · rw [if_neg (by omega)] at hmust
      have hst : stepR (({ b with seq := s, high := h } : Bk), l) o = (((tell (({ b with seq := s, high := h } : Bk), l) (evCancel m.id (m.vis + m.hid) 5)).1.set (far c.side) r, (tell (({ b with seq := s, high := h } : Bk), l) (evCancel m.id (m.vis + m.hid) 5)).2), o) := by
        rw [hstep]
        unfold stepOwn
        simp only
        rw [if_neg (by omega), if_pos (.inl h1), hf3, hw]
      have htk : takes b c (evCancel m.id (m.vis + m.hid) 5) = (b.set (far c.side) r, { c with traded := true, met := false }) := by
        rw [takes_cancel hid, hd]
        simp [h1]
      refine ⟨[evCancel m.id (m.vis + m.hid) 5], b.set (far c.side) r, { c with traded := true, met := false }, ⟨⟨hmust, by rw [htk]; exact ⟨rfl, rfl⟩⟩, by simp, ⟨hokr, hp.cg.next rfl rfl rfl hp.cg.left hlen hrid (hshr _ hp.empty) (.inl hp.empty), hp.empty⟩, .inl rfl, rfl, g4, g3, g1, g2, ?_, ?_, ?_, ?_, ?_⟩⟩
      · rw [hst]; exact Bk.set_with b _ _ _ _
      · rw [hst]; simp only; rw [← ho.left]
      · rw [hst]; simp only [tell, sum_append]; congr 1
      · intro _; rw [hst]; rfl
      · exact .inl fun e he => by simp at he; subst he; intro ⟨_, h2⟩; exact hid h2
    · rw [if_neg (by omega)] at hmust
      have hst : stepR (({ b with seq := s, high := h } : Bk), l) o = (tell ((tell (({ b with seq := s, high := h } : Bk), l) (evCancel m.id (m.vis + m.hid) 5)).1.set (far c.side) r, (tell (({ b with seq := s, high := h } : Bk), l) (evCancel m.id (m.vis + m.hid) 5)).2) (evCancel o.id o.left 5), { o with left := 0 }) := by
        rw [hstep]
        unfold stepOwn
        simp only
        rw [if_pos (.inr h1), if_pos (.inr h1), hf3, hw]
      have htk : takes b c (evCancel m.id (m.vis + m.hid) 5) = (b.set (far c.side) r, { c with traded := true, met := true }) := by
        rw [takes_cancel hid, hd]
        simp [h1]
      have hm2 : must true (b.set (far c.side) r) { c with traded := true, met := true } = some (evCancel c.o.id c.left 5) := must_met (c := { c with traded := true, met := true }) hp.empty rfl hl
      refine ⟨[evCancel m.id (m.vis + m.hid) 5, evCancel c.o.id c.left 5], b.set (far c.side) r, { c with traded := true, met := true, left := 0 }, ⟨⟨hmust, by rw [htk]; exact ⟨hm2, by rw [takes_own (c := { c with traded := true, met := true })]; exact ⟨rfl, rfl⟩⟩⟩, by simp, ⟨hokr, hp.cg.next rfl rfl rfl ⟨by simp, by simp⟩ hlen hrid (hshr _ hp.empty) (.inl hp.empty), hp.empty⟩, .inr rfl, rfl, g4, g3, g1, g2, ?_, ?_, ?_, ?_, ?_⟩⟩
      · rw [hst]; simp only [tell]; rw [Bk.set_with]; rfl
      · rw [hst]
      · rw [hst]; simp only [tell, sum_append]; simp [sumTrades, evCancel]
      · intro hi; rw [hst]; simp only [tell, num_two]; rw [hi, ho.left, (Bk.set_fields _ _ _).2.2.2]; simp
      · refine .inr ⟨rfl, [evCancel m.id (m.vis + m.hid) 5], _, _, _, rfl, fun e he => ?_, ⟨hmust, by rw [htk]; exact ⟨rfl, rfl⟩⟩, hm2, rfl, rfl⟩
        simp at he; subst he; intro ⟨_, h2⟩; exact hid h2
  · rw [if_neg hown] at hmust hstep
    have hq : (if m.vis < o.left then m.vis else o.left) = min c.left m.vis := by rw [ho.left]; split <;> omega
    have hn : (if m.hid < m.peak then m.hid else m.peak) = min m.peak m.hid := by split <;> omega
    unfold stepTrade at hstep
    simp only at hstep
    rw [hq, hn, hf3, hw] at hstep
    have hq0 : 1 ≤ min c.left m.vis := by omega
    have hq1 : min c.left m.vis ≤ m.vis := by omega
    have hq2 : min c.left m.vis ≤ c.left := by omega
    have hle := hp.cg.left
    have hsm := hmok.sum
    have hh := hmok.hid
    generalize min c.left m.vis = q at *
    have hno : ¬ (({ zE with kind := 3, id := c.o.id, other := m.id, side := c.side, price := m.price, qty := q } : Ev).kind = 4 ∧ ({ zE with kind := 3, id := c.o.id, other := m.id, side := c.side, price := m.price, qty := q } : Ev).id = c.o.id) := by simp
    have htk := takes_trade (b := b) (c := c) { zE with kind := 3, id := c.o.id, other := m.id, side := c.side, price := m.price, qty := q } rfl hd
    simp only at htk
    have hev : o.id = c.o.id → evTrade o m q = { zE with kind := 3, id := c.o.id, other := m.id, side := c.side, price := m.price, qty := q } := fun hi => by unfold evTrade; rw [hi, ho.side]
    by_cases h1 : 0 < m.vis - q
    · rw [if_pos h1] at hstep
      rw [if_neg (by omega), if_neg (by omega)] at htk
      have hok' : (b.set (far c.side) ({ m with vis := m.vis - q } :: r)).ok := hp.ok.set _ (fun x hx => by
        rcases List.mem_cons.1 hx with rfl | hx
        · exact ⟨hmok.id, hmok.mem, hmok.typ, hmok.price, by simp; omega, hmok.hid, hmok.peak, by simp; omega, hmok.hpos⟩
        · exact hrok x hx) [] (perm_same hd rfl)
      obtain ⟨k1, k2, k3, k4⟩ := b.set_fields (far c.side) ({ m with vis := m.vis - q } :: r)
      refine ⟨[_], b.set (far c.side) ({ m with vis := m.vis - q } :: r), { c with traded := true, left := c.left - q }, ⟨⟨hmust, by rw [htk]; exact ⟨rfl, rfl⟩⟩, by simp, ⟨hok', hp.cg.next rfl rfl rfl ⟨by simp; omega, by simp; omega⟩ (by rw [hd]; simp) ?_ ?_ (.inl hp.empty), hp.empty⟩, .inl hmet, rfl, k4, k3, k1, k2, ?_, ?_, ?_, ?_, ?_⟩⟩
      · intro x hx
        rcases List.mem_cons.1 hx with rfl | hx
        · exact hmid
        · exact hrid x hx
      · intro x hx hx0
        rcases mem_set hx with hx | hx
        · rcases List.mem_cons.1 hx with rfl | hx
          · simp only at hx0; omega
          · have := hp.vis (side_mem (hr x hx)); omega
        · have := hp.vis hx; omega
      · rw [hstep]; exact Bk.set_with b _ _ _ _
      · rw [hstep, ho.left]
      · rw [hstep]; simp only [tell, sum_append]; simp [sumTrades, evTrade]
      · intro hi; rw [hstep]; simp only [tell, num_one]; rw [hev hi]
      · exact .inl fun e he => by simp only [List.mem_singleton] at he; subst he; exact hno
    · rw [if_neg h1] at hstep
      have hv0 : m.vis - q = 0 := by omega
      by_cases h2 : 0 < m.hid
      · rw [if_pos h2] at hstep
        rw [if_pos ⟨hv0, h2⟩] at htk
        have hpk := hmok.hpos h2
        have hn0 : 1 ≤ min m.peak m.hid := by omega
        have hn1 : min m.peak m.hid ≤ m.hid := by omega
        have hmf : must true (b.set (far c.side) ({ m with vis := m.vis - q } :: r)) { c with traded := true, left := c.left - q, empty := m.id } = some (evFresh m (min m.peak m.hid)) :=
          must_empty (m := { m with vis := m.vis - q }) (c := { c with traded := true, left := c.left - q, empty := m.id }) hid0 (by simp only; rw [Bk.side_set])
        have htf := takes_fresh (b := b.set (far c.side) ({ m with vis := m.vis - q } :: r)) (c := { c with traded := true, left := c.left - q, empty := m.id }) (m := { m with vis := m.vis - q }) (r := r) (min m.peak m.hid) (by simp only; rw [Bk.side_set])
        simp only at htf
        rw [Bk.set_set] at htf
        have hef : evFresh { m with vis := m.vis - q } (min m.peak m.hid) = evFresh m (min m.peak m.hid) := rfl
        rw [hef] at htf
        generalize min m.peak m.hid = n at *
        have hok' : (b.set (far c.side) (rests (far c.side) { m with vis := n, hid := m.hid - n } r)).ok := hp.ok.set _ (fun x hx => by
          rcases mem_rests.1 hx with rfl | hx
          · exact ⟨hmok.id, hmok.mem, hmok.typ, hmok.price, by simp; omega, by simp; omega, hmok.peak, by simp; omega, fun _ => hpk⟩
          · exact hrok x hx) [] (perm_rests hd rfl)
        obtain ⟨k1, k2, k3, k4⟩ := b.set_fields (far c.side) (rests (far c.side) { m with vis := n, hid := m.hid - n } r)
        refine ⟨[_, evFresh m n], b.set (far c.side) (rests (far c.side) { m with vis := n, hid := m.hid - n } r), { c with traded := true, left := c.left - q, empty := 0 }, ⟨⟨hmust, by rw [htk]; exact ⟨hmf, by rw [htf]; exact ⟨rfl, rfl⟩⟩⟩, by simp, ⟨hok', hp.cg.next rfl rfl rfl ⟨by simp; omega, by simp; omega⟩ (by rw [hd, rests_len]; simp) ?_ ?_ (.inl rfl), rfl⟩, .inl hmet, rfl, k4, k3, k1, k2, ?_, ?_, ?_, ?_, ?_⟩⟩
        · intro x hx
          rcases mem_rests.1 hx with rfl | hx
          · exact hmid
          · exact hrid x hx
        · intro x hx hx0
          rcases mem_set hx with hx | hx
          · rcases mem_rests.1 hx with rfl | hx
            · simp only at hx0; omega
            · have := hp.vis (side_mem (hr x hx)); omega
          · have := hp.vis hx; omega
        · rw [hstep]; simp only [tell]; rw [enq_rests hfr, Bk.set_with]; rfl
        · rw [hstep, ho.left]
        · rw [hstep]; simp only [tell, sum_append]; simp [sumTrades, evTrade, evFresh]
        · intro hi; rw [hstep]; simp only [tell, num_two]; rw [hev hi]; simp
        · refine .inl fun e he => ?_
          simp only [List.mem_cons, List.not_mem_nil, or_false] at he
          rcases he with rfl | rfl
          · exact hno
          · simp [evFresh]
      · rw [if_neg h2] at hstep
        rw [if_neg (by omega), if_pos hv0] at htk
        refine ⟨[_], b.set (far c.side) r, { c with traded := true, left := c.left - q }, ⟨⟨hmust, by rw [htk]; exact ⟨rfl, rfl⟩⟩, by simp, ⟨hokr, hp.cg.next rfl rfl rfl ⟨by simp; omega, by simp; omega⟩ hlen hrid (hshr _ hp.empty) (.inl hp.empty), hp.empty⟩, .inl hmet, rfl, g4, g3, g1, g2, ?_, ?_, ?_, ?_, ?_⟩⟩
        · rw [hstep]; exact Bk.set_with b _ _ _ _
        · rw [hstep, ho.left]
        · rw [hstep]; simp only [tell, sum_append]; simp [sumTrades, evTrade]
        · intro hi; rw [hstep]; simp only [tell, num_one]; rw [hev hi]
        · exact .inl fun e he => by simp only [List.mem_singleton] at he; subst he; exact hno
end Ck
end Go.Proofs.Ytcnkbhgdcfckoaa
namespace Go.Proofs.Ytcnkbhgdcfckoaa
namespace Ck
theorem mem_set' {b : Bk} {s : Int} {l : List Rs} (hs : s = 1 ∨ s = 2) {x : Rs} (h : x ∈ (b.set s l).buys ++ (b.set s l).sells) : x ∈ l ∨ x ∈ b.side (3 - s) := by
  rcases hs with rfl | rfl
  · rcases List.mem_append.1 h with h | h
    · exact .inl h
    · exact .inr h
  · rcases List.mem_append.1 h with h | h
    · exact .inr h
    · exact .inl h
/-- Two orders of a book with one number are one. -/
theorem id_other {b : Bk} (hb : b.ok) {s : Int} (hs : s = 1 ∨ s = 2) {x y : Rs} (hx : x ∈ b.side s) (hy : y ∈ b.side (3 - s)) : x.id ≠ y.id := by
  have hone := hb.one
  rw [List.map_append, List.nodup_append] at hone
  rcases hs with rfl | rfl
  · exact fun e => hone.2.2 _ (List.mem_map_of_mem hx) _ (List.mem_map_of_mem hy) e
  · exact fun e => hone.2.2 _ (List.mem_map_of_mem hy) _ (List.mem_map_of_mem hx) e.symm
theorem id_tail {b : Bk} (hb : b.ok) {s : Int} {m x : Rs} {r : List Rs} (hd : b.side s = m :: r) (hx : x ∈ r) : x.id ≠ m.id := by
  have h := side_ids hb s
  rw [hd, List.map_cons, List.nodup_cons] at h
  exact fun e => h.1 (e ▸ List.mem_map_of_mem hx)
structure Kept (b : Bk) (c : Cg) (r : Bk × Cg) : Prop where
  ok : r.1.ok
  cg : Cg.ok r.1 r.2
  cap : r.1.cap = b.cap
  meet : r.1.meet = b.meet
  high : r.1.high = b.high
  seq : r.1.seq = b.seq
  count : r.1.count ≤ b.count
theorem count_set {b : Bk} {s : Int} {l : List Rs} (h : l.length ≤ (b.side s).length) : (b.set s l).count ≤ b.count := by
  unfold Bk.count Bk.set
  unfold Bk.side at h
  split
  · rename_i hs; rw [if_pos hs] at h; simp only; omega
  · rename_i hs; rw [if_neg hs] at h; simp only; omega
theorem kept_own {b : Bk} {c : Cg} (hb : b.ok) (hc : Cg.ok b c) (q why : Int) : Kept b c (takes b c (evCancel c.o.id q why)) := by
  rw [takes_own]
  exact ⟨hb, hc.same rfl rfl rfl rfl ⟨by simp, by simp⟩, rfl, rfl, rfl, rfl, Nat.le_refl _⟩
theorem kept_fresh {b : Bk} {c : Cg} {m : Rs} {r : List Rs} (hb : b.ok) (hc : Cg.ok b c) (he : c.empty ≠ 0) (hd : b.side (far c.side) = m :: r) : m.id = c.empty ∧ 1 ≤ m.hid ∧ 1 ≤ m.peak ∧ Kept b c (takes b c (evFresh m (min m.peak m.hid))) := by
  obtain ⟨m', r', hd', hid, hv⟩ := hc.empty.resolve_left he
  rw [hd] at hd'
  injection hd' with h1 h2
  subst h1; subst h2
  have hfr := far_or hc.side
  have hm := hb.side (far c.side) m (by rw [hd]; simp)
  have hmem : m ∈ b.side (far c.side) := by rw [hd]; simp
  have h1 := hm.sum
  have h2 := hm.hid
  have h3 : 1 ≤ m.hid := by omega
  have h4 := hm.hpos (by omega)
  have h5 := hm.vis
  have hn1 : 1 ≤ min m.peak m.hid := by omega
  have hn2 : min m.peak m.hid ≤ m.hid := by omega
  refine ⟨hid, h3, by omega, ?_⟩
  rw [takes_fresh _ hd]
  generalize min m.peak m.hid = n at *
  obtain ⟨k1, k2, k3, k4⟩ := b.set_fields (far c.side) (rests (far c.side) { m with vis := n, hid := m.hid - n } r)
  have hlen : (rests (far c.side) { m with vis := n, hid := m.hid - n } r).length ≤ (b.side (far c.side)).length := by rw [hd, rests_len]; simp
  have hr : ∀ x ∈ r, x ∈ b.side (far c.side) := fun x hx => by rw [hd]; simp [hx]
  refine ⟨hb.set _ (fun x hx => ?_) [] (perm_rests hd rfl), hc.next rfl rfl rfl hc.left hlen (fun x hx => ?_) (fun x hx hx0 => ?_) (.inl rfl), k1, k2, k3, k4, count_set hlen⟩
  · rcases mem_rests.1 hx with rfl | hx
    · exact ⟨hm.id, hm.mem, hm.typ, hm.price, by simp; omega, by simp; omega, hm.peak, by simp; omega, fun _ => h4⟩
    · exact hb.side _ x (hr x hx)
  · rcases mem_rests.1 hx with rfl | hx
    · exact (List.mem_map_of_mem (side_mem hmem) : m.id ∈ (b.buys ++ b.sells).map Rs.id)
    · exact List.mem_map_of_mem (side_mem (hr x hx))
  · exfalso
    rcases mem_set' hfr hx with hx | hx
    · rcases mem_rests.1 hx with rfl | hx
      · simp only at hx0; omega
      · have := hc.shows x (side_mem (hr x hx)) hx0
        exact id_tail hb hd hx (by rw [this, hid])
    · have := hc.shows x (side_mem hx) hx0
      exact id_other hb hfr hmem hx (by rw [this, hid])
theorem kept_away {b : Bk} {c : Cg} {m : Rs} {r : List Rs} (hb : b.ok) (hc : Cg.ok b c) (he : c.empty = 0) (hd : b.side (far c.side) = m :: r) (q why : Int) : m.id ≠ c.o.id ∧ Kept b c (takes b c (evCancel m.id q why)) := by
  have hmem : m ∈ b.side (far c.side) := by rw [hd]; simp
  have hid : m.id ≠ c.o.id := fun e => hc.ids (e ▸ List.mem_map_of_mem (side_mem hmem))
  have hp : PI b c := ⟨hb, hc, he⟩
  refine ⟨hid, ?_⟩
  rw [takes_cancel hid, hd]
  obtain ⟨k1, k2, k3, k4⟩ := b.set_fields (far c.side) r
  have hlen : r.length ≤ (b.side (far c.side)).length := by rw [hd]; simp
  have hr : ∀ x ∈ r, x ∈ b.side (far c.side) := fun x hx => by rw [hd]; simp [hx]
  refine ⟨hb.set _ (fun x hx => hb.side _ x (hr x hx)) [m.id] (perm_tail hd), hc.next rfl rfl rfl hc.left hlen (fun x hx => List.mem_map_of_mem (side_mem (hr x hx))) (fun x hx hx0 => ?_) (.inl he), k1, k2, k3, k4, count_set hlen⟩
  exfalso
  rcases mem_set hx with hx | hx
  · have := hp.vis (side_mem (hr x hx)); omega
  · have := hp.vis hx; omega
theorem kept_trade {b : Bk} {c : Cg} {m : Rs} {r : List Rs} {e : Ev} (hb : b.ok) (hc : Cg.ok b c) (he : c.empty = 0) (hd : b.side (far c.side) = m :: r) (hk : e.kind = 3) (hq : 1 ≤ e.qty ∧ e.qty ≤ m.vis ∧ e.qty ≤ c.left) : Kept b c (takes b c e) := by
  have hmem : m ∈ b.side (far c.side) := by rw [hd]; simp
  have hp : PI b c := ⟨hb, hc, he⟩
  have hm := hb.side _ m hmem
  have h1 := hm.sum
  have h2 := hm.hid
  have hle := hc.left
  have hr : ∀ x ∈ r, x ∈ b.side (far c.side) := fun x hx => by rw [hd]; simp [hx]
  have hmid : m.id ∈ (b.buys ++ b.sells).map Rs.id := List.mem_map_of_mem (side_mem hmem)
  rw [takes_trade e hk hd]
  have key : ∀ (l : List Rs) (c1 : Cg), c1.o = c.o → c1.side = c.side → c1.kind = c.kind → 0 ≤ c1.left ∧ c1.left ≤ 4294967295 → l.length ≤ (b.side (far c.side)).length → (∀ x ∈ l, x.ok mx ∧ x.id ∈ (b.buys ++ b.sells).map Rs.id ∧ (x.vis = 0 → x.id = c1.empty)) → (∃ pre, (pre ++ l.map Rs.id).Perm ((b.side (far c.side)).map Rs.id)) →
      (c1.empty = 0 ∨ ∃ r l', l = r :: l' ∧ r.id = c1.empty ∧ r.vis = 0) → Kept b c (b.set (far c.side) l, c1) := by
    intro l c1 e1 e2 e3 e4 hlen hall hpre hemp
    obtain ⟨pre, hpre⟩ := hpre
    obtain ⟨k1, k2, k3, k4⟩ := b.set_fields (far c.side) l
    refine ⟨hb.set _ (fun x hx => (hall x hx).1) pre hpre, hc.next e1 e2 e3 e4 hlen (fun x hx => (hall x hx).2.1) (fun x hx hx0 => ?_) hemp, k1, k2, k3, k4, count_set hlen⟩
    rcases mem_set' (far_or hc.side) hx with hx | hx
    · exact (hall x hx).2.2 hx0
    · exfalso; have := hp.vis (side_mem hx); omega
  have hrr : ∀ (c1 : Cg), ∀ x ∈ r, x.ok mx ∧ x.id ∈ (b.buys ++ b.sells).map Rs.id ∧ (x.vis = 0 → x.id = c1.empty) := fun c1 x hx => ⟨hb.side _ x (hr x hx), List.mem_map_of_mem (side_mem (hr x hx)), fun h0 => by exfalso; have := hp.vis (side_mem (hr x hx)); omega⟩
  split
  · rename_i hz
    refine key _ _ rfl rfl rfl ⟨by simp; omega, by simp; omega⟩ (by rw [hd]; simp) (fun x hx => ?_) ⟨[], perm_same hd rfl⟩ (.inr ⟨_, r, rfl, rfl, hz.1⟩)
    rcases List.mem_cons.1 hx with rfl | hx
    · exact ⟨⟨hm.id, hm.mem, hm.typ, hm.price, by simp; omega, hm.hid, hm.peak, by simp; omega, hm.hpos⟩, hmid, fun _ => rfl⟩
    · exact hrr _ x hx
  · split
    · exact key _ _ rfl rfl rfl ⟨by simp; omega, by simp; omega⟩ (by rw [hd]; simp) (hrr _) ⟨[m.id], perm_tail hd⟩ (.inl he)
    · rename_i hz hz2
      refine key _ _ rfl rfl rfl ⟨by simp; omega, by simp; omega⟩ (by rw [hd]; simp) (fun x hx => ?_) ⟨[], perm_same hd rfl⟩ (.inl he)
      rcases List.mem_cons.1 hx with rfl | hx
      · exact ⟨⟨hm.id, hm.mem, hm.typ, hm.price, by simp; omega, hm.hid, hm.peak, by simp; omega, hm.hpos⟩, hmid, fun h0 => by simp only at h0; omega⟩
      · exact hrr _ x hx
/-- What an event that must come looks like. -/
inductive Musts (b : Bk) (c : Cg) (m : Ev) : Prop
  | fresh (r : Rs) (l : List Rs) (he : c.empty ≠ 0) (hd : b.side (far c.side) = r :: l) (hm : m = evFresh r (min r.peak r.hid))
  | own (q why : Int) (he : c.empty = 0) (hm : m = evCancel c.o.id q why)
  | away (r : Rs) (l : List Rs) (q why : Int) (he : c.empty = 0) (hl : 0 < c.left) (hd : b.side (far c.side) = r :: l) (hm : m = evCancel r.id q why)
  | trade (r : Rs) (l : List Rs) (he : c.empty = 0) (hl : 0 < c.left) (hd : b.side (far c.side) = r :: l) (hm : m = { zE with kind := 3, id := c.o.id, other := r.id, side := c.side, price := r.price, qty := min c.left r.vis })
theorem must_form {wh : Bool} {b : Bk} {c : Cg} {m : Ev} (hle : 0 ≤ c.left) (h : must wh b c = some m) : Musts b c m := by
  unfold must at h
  split at h
  · rename_i he
    split at h
    · cases h
    · rename_i r l hd
      injection h with h
      exact .fresh r l he hd h.symm
  · rename_i he
    have he' : c.empty = 0 := by simpa using he
    split at h
    · injection h with h; exact .own _ _ he' h.symm
    · split at h
      · cases h
      · split at h
        · injection h with h; exact .own _ _ he' h.symm
        · rename_i hl _
          have hl' : 0 < c.left := by omega
          split at h
          · rename_i o ho
            obtain ⟨l, hd⟩ : ∃ l, b.side (far c.side) = o :: l := by
              unfold first at ho
              cases hd : b.side (far c.side) with
              | nil => rw [hd] at ho; cases ho
              | cons q l =>
                rw [hd] at ho
                simp only at ho
                split at ho
                · injection ho with ho; subst ho; exact ⟨l, rfl⟩
                · cases ho
            split at h
            · split at h
              · injection h with h; exact .own _ _ he' h.symm
              · injection h with h; exact .away o l _ _ he' hl' hd h.symm
            · injection h with h; exact .trade o l he' hl' hd h.symm
          · split at h
            · cases h
            · injection h with h; exact .own _ _ he' h.symm
theorem must_kept {wh : Bool} {b : Bk} {c : Cg} {m : Ev} (hb : b.ok) (hc : Cg.ok b c) (h : must wh b c = some m) : Kept b c (takes b c m) := by
  cases must_form hc.left.1 h with
  | fresh r l he hd hm => subst hm; exact (kept_fresh hb hc he hd).2.2.2
  | own q why he hm => subst hm; exact kept_own hb hc q why
  | away r l q why he hl hd hm => subst hm; exact (kept_away hb hc he hd q why).2
  | trade r l he hl hd hm =>
    subst hm
    have hp : PI b c := ⟨hb, hc, he⟩
    have hv := hp.vis (r := r) (side_mem (s := far c.side) (by rw [hd]; simp))
    exact kept_trade hb hc he hd rfl ⟨by simp; omega, by simp; omega, by simp; omega⟩
theorem takes_seq (b : Bk) (c : Cg) (m : Ev) (s : Int) : takes b c { m with seq := s } = takes b c m := rfl
end Ck
end Go.Proofs.Ytcnkbhgdcfckoaa
namespace Go.Proofs.Ytcnkbhgdcfckoaa
namespace Ck
theorem OkR_of {r : Rs} (h : r.ok mx) (hv : 1 ≤ r.vis) : OkR r := ⟨hv, h.hid, h.peak.1, h.sum.2, h.hpos⟩
theorem PI.okB {b : Bk} {c : Cg} (h : PI b c) (s q : Int) : OkB { b with seq := s, high := q } :=
  ⟨fun r hr => OkR_of (h.ok.buys r hr) (h.vis (by simp [hr])), fun r hr => OkR_of (h.ok.sells r hr) (h.vis (by simp [hr]))⟩
theorem tradesR_stop {n : Nat} {t : Td} {o : Co} (h : ¬ (0 < o.left ∧ meetsR t.1 o = true)) : tradesR n t o = (t, o) := by
  cases n with
  | zero => rfl
  | succ n => unfold tradesR; rw [if_neg h]
structure Traded (n : Nat) (b : Bk) (c : Cg) (o : Co) (s h : Int) (l : List Ev) (E : List Ev) (b1 : Bk) (c1 : Cg) : Prop where
  plays : plays b c E b1 c1
  pi : PI b1 c1
  met : c1.met = false ∨ c1.left = 0
  traded : E ≠ [] → c1.traded = true
  nil : E = [] → b1 = b ∧ c1 = c
  seq : b1.seq = b.seq
  high : b1.high = b.high
  cap : b1.cap = b.cap
  meet : b1.meet = b.meet
  book : (tradesR n ({ b with seq := s, high := h }, l) o).1.1 = { b1 with seq := seqs s E.length, high := h }
  left : (tradesR n ({ b with seq := s, high := h }, l) o).2 = { o with left := c1.left }
  sum : sumTrades (tradesR n ({ b with seq := s, high := h }, l) o).1.2 = sumTrades l + sumTrades E
  told : o.id = c.o.id → (tradesR n ({ b with seq := s, high := h }, l) o).1.2 = l ++ num s E
  stop : c1.left = 0 ∨ first b1 c1 = none
  ends : noOwn c E ∨ (c1.left = 0 ∧ ∃ E0 m b0 c0, E = E0 ++ [m] ∧ noOwn c E0 ∧ Ck.plays b c E0 b0 c0 ∧ must true b0 c0 = some m ∧ m.kind = 4 ∧ m.id = c.o.id)
theorem trades_done {n : Nat} {b : Bk} {c : Cg} {o : Co} {s h : Int} {l : List Ev} (hp : PI b c) (hmet : c.met = false ∨ c.left = 0) (ho : Like c o) (hs : c.left = 0 ∨ first b c = none) : Traded n b c o s h l [] b c := by
  have hst : tradesR n ({ b with seq := s, high := h }, l) o = (({ b with seq := s, high := h }, l), o) := tradesR_stop (by
    rintro ⟨h1, h2⟩
    simp only at h2
    rw [meetsR_first ho hp.cg.side] at h2
    rcases hs with hs | hs
    · rw [ho.left, hs] at h1; omega
    · rw [hs] at h2; cases h2)
  refine ⟨⟨rfl, rfl⟩, hp, hmet, fun h => absurd rfl h, fun _ => ⟨rfl, rfl⟩, rfl, rfl, rfl, rfl, by rw [hst]; rfl, by rw [hst, ← ho.left], by rw [hst]; simp [sumTrades], fun _ => by rw [hst]; simp [num], hs, .inl (fun _ h => by cases h)⟩
theorem trades_plays : ∀ (n : Nat) {b : Bk} {c : Cg} {o : Co} {s h : Int} {l : List Ev}, PI b c → (c.met = false ∨ c.left = 0) → Like c o → (todoR { b with seq := s, high := h } o ≤ n ∨ c.left = 0) →
    ∃ E b1 c1, Traded n b c o s h l E b1 c1 := by
  intro n
  induction n with
  | zero =>
    intro b c o s h l hp hmet ho htd
    refine ⟨[], b, c, trades_done hp hmet ho ?_⟩
    rcases htd with htd | htd
    · right
      cases hf : first b c with
      | none => rfl
      | some p =>
        have h1 : meetsR { b with seq := s, high := h } o = true := by rw [meetsR_first ho hp.cg.side, hf]; rfl
        have := todoR_pos (hp.okB s h) h1
        omega
    · exact .inl htd
  | succ n ih =>
    intro b c o s h l hp hmet ho htd
    by_cases hgo : c.left = 0 ∨ first b c = none
    · exact ⟨[], b, c, trades_done hp hmet ho hgo⟩
    · have hl0 : c.left ≠ 0 := fun e => hgo (.inl e)
      have hl : 0 < c.left := by have := hp.cg.left.1; omega
      have hmet' : c.met = false := hmet.resolve_right hl0
      have hne : meetsR { b with seq := s, high := h } o = true := by
        rw [meetsR_first ho hp.cg.side]
        cases hf : first b c with
        | none => exact absurd (.inr hf) hgo
        | some p => rfl
      have hol : 0 < o.left := by rw [ho.left]; exact hl
      obtain ⟨E1, b2, c2, st⟩ := step_plays (l := l) hp hmet' hl ho hne
      have htr : tradesR (n + 1) ({ b with seq := s, high := h }, l) o = tradesR n (stepR ({ b with seq := s, high := h }, l) o).1 (stepR ({ b with seq := s, high := h }, l) o).2 := by
        conv => lhs; unfold tradesR
        rw [if_pos ⟨hol, hne⟩]
      obtain ⟨i1, i2, i3⟩ := plays_id st.plays
      have ho2 : Like c2 { o with left := c2.left } := ⟨rfl, by rw [i1]; exact ho.mem, by rw [i2]; exact ho.side, by rw [i3]; exact ho.kind, by rw [i1]; exact ho.price⟩
      have hsplit : (stepR ({ b with seq := s, high := h }, l) o).1 = ({ b2 with seq := seqs s E1.length, high := h }, (stepR ({ b with seq := s, high := h }, l) o).1.2) := by
        rw [← st.book]
      have htd2 : todoR { b2 with seq := seqs s E1.length, high := h } { o with left := c2.left } ≤ n ∨ c2.left = 0 := by
        have hmr := hp.ok.meet
        have hside : o.side = 1 ∨ o.side = 2 := by rw [ho.side]; exact hp.cg.side
        have hq := stepR_todo (t := ({ b with seq := s, high := h }, l)) (hp.okB s h) hside hol (by simp only; omega) hne
        rw [st.book, st.left] at hq
        rcases htd with htd | htd
        · rcases hq with hq | hq
          · left; simp only at hq; omega
          · exact .inr hq
        · exact absurd htd hl0
      by_cases h20 : c2.left = 0
      · have hd := trades_done (n := n) (s := seqs s E1.length) (h := h) (l := (stepR ({ b with seq := s, high := h }, l) o).1.2) st.pi (.inr h20) ho2 (.inl h20)
        refine ⟨E1, b2, c2, ?_⟩
        refine ⟨st.plays, st.pi, st.met, fun _ => st.traded, fun e => by have := st.some; rw [e] at this; simp at this, st.seq, st.high, st.cap, st.meet, ?_, ?_, ?_, fun hi => ?_, .inl h20, st.ends⟩
        · rw [htr, st.left, hsplit, hd.book]; rfl
        · rw [htr, st.left, hsplit, hd.left]
        · rw [htr, st.left, hsplit, hd.sum, st.sum]; simp [sumTrades]
        · rw [htr, st.left, hsplit, hd.told (by rw [i1]; exact hi), st.told hi]; simp [num]
      · have hno : noOwn c E1 := by
          rcases st.ends with h1 | ⟨h1, _⟩
          · exact h1
          · exact absurd h1 h20
        obtain ⟨E2, b3, c3, tr⟩ := ih (l := (stepR ({ b with seq := s, high := h }, l) o).1.2) st.pi st.met ho2 htd2
        have hcomb := plays_append st.plays tr.plays
        refine ⟨E1 ++ E2, b3, c3, ?_⟩
        refine ⟨hcomb, tr.pi, tr.met, fun _ => ?_, fun e => by have := st.some; have e1 := (List.append_eq_nil_iff.1 e).1; rw [e1] at this; simp at this, tr.seq.trans st.seq, tr.high.trans st.high, tr.cap.trans st.cap, tr.meet.trans st.meet, ?_, ?_, ?_, fun hi => ?_, tr.stop, ?_⟩
        · cases E2 with
          | nil => rw [(tr.nil rfl).2]; exact st.traded
          | cons e E2 => exact tr.traded (by simp)
        · rw [htr, st.left, hsplit, tr.book, List.length_append, seqs_add]
        · rw [htr, st.left, hsplit, tr.left]
        · rw [htr, st.left, hsplit, tr.sum, st.sum, sum_append]; omega
        · rw [htr, st.left, hsplit, tr.told (by rw [i1]; exact hi), st.told hi, num_append, List.append_assoc]
        · have hno2 : ∀ {L : List Ev}, noOwn c2 L → noOwn c (E1 ++ L) := fun {L} hL m hm => by
            rcases List.mem_append.1 hm with hm | hm
            · exact hno m hm
            · have := hL m hm
              rw [i1] at this
              exact this
          rcases tr.ends with h1 | ⟨h1, E0, m, b0, c0, h2, h3, h4, h5, h6, h7⟩
          · exact .inl (hno2 h1)
          · exact .inr ⟨h1, E1 ++ E0, m, b0, c0, by rw [h2, List.append_assoc], hno2 h3, plays_append st.plays h4, h5, h6, by rw [h7, i1]⟩
/-- The way of the checker's 'whole' ends, and comes to the document's answer. -/
theorem whole_go {b : Bk} {c : Cg} (hp : PI b c) (hmet : c.met = false) : ∃ n, Ends n { b with high := 0, seq := 0 } { c with kind := 3 } ∧ wholeGo n { b with high := 0, seq := 0 } { c with kind := 3 } c.left = whole b c := by
  have hp0 : PI { b with high := 0, seq := 0 } { c with kind := 3 } :=
    ⟨⟨hp.ok.cap, hp.ok.meet, ⟨by simp, by simp⟩, ⟨by simp, by simp⟩, hp.ok.buys, hp.ok.sells, hp.ok.one, hp.ok.room⟩,
     ⟨hp.cg.side, ⟨by simp, by simp⟩, hp.cg.left, hp.cg.id, hp.cg.mem, hp.cg.typ, hp.cg.price, hp.cg.zero, hp.cg.peak, hp.cg.ids, hp.cg.shows, hp.cg.empty, fun h => by simp at h⟩, hp.empty⟩
  have ho : Like { c with kind := 3 } (c.co 3) := ⟨rfl, rfl, rfl, rfl, rfl⟩
  obtain ⟨E, b1, c1, tr⟩ := trades_plays (todoR b (c.co 3)) (s := b.seq) (h := b.high) (l := []) hp0 (.inl hmet) ho (.inl (Nat.le_refl _))
  have hb : ({ ({ b with high := 0, seq := 0 } : Bk) with seq := b.seq, high := b.high } : Bk) = b := rfl
  have hsum : sumTrades (tradesR (todoR b (c.co 3)) (b, []) (c.co 3)).1.2 = sumTrades E := by
    have := tr.sum
    rw [hb] at this
    rw [this, sum_nil]
    omega
  have hw : whole b c = decide (c.left - sumTrades E = 0) := by
    unfold whole wholeR
    rw [hsum]
    have : (c.co 3).left = c.left := rfl
    rw [this]
    by_cases h : sumTrades E = c.left
    · simp [h]
    · have h2 : ¬ (c.left - sumTrades E = 0) := by omega
      simp [h, h2]
  obtain ⟨i1, i2, i3⟩ := plays_id tr.plays
  rw [hw]
  rcases tr.ends with hn | ⟨h0, E0, m, b0, c0, rfl, hn, hpl, hm, hk, hi⟩
  · refine ⟨E.length + 1, ends_plays tr.plays ?_, ?_⟩
    · unfold Ends
      rcases tr.stop with hs | hs
      · rw [must_none tr.pi.empty hs]; trivial
      · by_cases h0 : c1.left = 0
        · rw [must_none tr.pi.empty h0]; trivial
        · have hl : 0 < c1.left := by have := tr.pi.cg.left.1; omega
          rw [must_end tr.pi.empty (tr.met.resolve_right h0) hl hs, i3, if_neg (by simp)]
          exact .inl ⟨rfl, rfl⟩
    · rw [go_plays tr.plays hn, wholeGo_succ]
      rcases tr.stop with hs | hs
      · rw [must_none tr.pi.empty hs]
      · by_cases h0 : c1.left = 0
        · rw [must_none tr.pi.empty h0]
        · have hl : 0 < c1.left := by have := tr.pi.cg.left.1; omega
          rw [must_end tr.pi.empty (tr.met.resolve_right h0) hl hs, i3, if_neg (by simp)]
          simp only
          rw [if_pos ⟨rfl, rfl⟩]
  · obtain ⟨j1, j2, j3⟩ := plays_id hpl
    refine ⟨E0.length + 1, ends_plays hpl ?_, ?_⟩
    · unfold Ends
      rw [hm]
      exact .inl ⟨hk, by rw [hi, j1]⟩
    · rw [go_plays hpl hn, wholeGo_succ, hm]
      simp only
      rw [if_pos ⟨hk, by rw [hi, j1]⟩, sum_append, sum_one_not (by rw [hk]; decide)]
      simp
end Ck
end Go.Proofs.Ytcnkbhgdcfckoaa
