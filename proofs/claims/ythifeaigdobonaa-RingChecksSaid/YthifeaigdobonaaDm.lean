/- The deque's machine as the document has it, in plain Lean: its state, its moves. -/
import Derived.Test.YthifeaigdobonaaMch
namespace Go.Proofs.Ythifeaigdobonaa

structure Th where
  call : Int
  line : Int
  b : Int
  t : Int
  v : Int

structure DM where
  room : Int
  words : List Int
  all : List Th
  calls : List ACall
  trace : List Acc
  moves : Int
  down : Int
  last : Int

namespace DM
def dload (m : DM) (t : Nat) (addr : Int) : DM := { m with trace := m.trace ++ [⟨m.moves, t, 1, addr, 0, 0, un (wd m.words addr.toNat)⟩] }
def dstore (m : DM) (t : Nat) (addr v : Int) : DM := { m with words := m.words.set addr.toNat v, trace := m.trace ++ [⟨m.moves, t, 2, addr, 0, un v, 0⟩] }
def dswap (m : DM) (t : Nat) (old : Int) : DM := { m with words := swp m.words 0 old (old + 1), trace := m.trace ++ [⟨m.moves, t, 3, 0, un old, un (old + 1), un (wd m.words 0)⟩] }
def setTh (m : DM) (t : Nat) (x : Th) : DM := { m with all := m.all.set t x }
def point (m : DM) (x : Th) (c : ACall) (p : Int) : DM := { m with calls := m.calls.set x.call.toNat { c with point := p } }
/-- The call c of thread t (it stood so) ends. -/
def fin (m : DM) (t : Nat) (x : Th) (c : ACall) (kind v : Int) : DM :=
  { m with calls := m.calls.set x.call.toNat { c with stop := m.moves, ak := kind, av := v }, all := m.all.set t { x with call := -1 } }

def push (m : DM) (t : Nat) (x : Th) (c : ACall) : DM :=
  if x.line = 1 then (m.dload t 1).setTh t { x with b := wd m.words 1, line := 2 }
  else if x.line = 2 then
    if m.room ≤ x.b - wd m.words 0 then (m.dload t 0).fin t { x with t := wd m.words 0 } { c with point := m.moves } 4 0
    else (m.dload t 0).setTh t { x with t := wd m.words 0, line := 3 }
  else if x.line = 3 then (m.dstore t (2 + x.b % m.room) c.arg).setTh t { x with line := 4 }
  else (m.dstore t 1 (x.b + 1)).fin t x { c with point := m.moves } 1 0

def take (m : DM) (t : Nat) (x : Th) (c : ACall) : DM :=
  if x.line = 1 then (m.dload t 1).setTh t { x with b := wd m.words 1, line := 2 }
  else if x.line = 2 then { ((m.dstore t 1 (x.b - 1)).point x c m.moves).setTh t { x with line := 3 } with down := m.moves, last := x.b - 1 }
  else if x.line = 3 then
    if x.b - 1 < wd m.words 0 then ((m.dload t 0).point x c m.moves).setTh t { x with t := wd m.words 0, line := 4 }
    else (m.dload t 0).setTh t { x with t := wd m.words 0, line := 5 }
  else if x.line = 4 then { (m.dstore t 1 x.t).fin t x c 3 0 with down := -1 }
  else if x.line = 5 then
    if x.t < x.b - 1 then { (m.dload t (2 + (x.b - 1) % m.room)).fin t { x with v := wd m.words (2 + (x.b - 1) % m.room).toNat } c 2 (wd m.words (2 + (x.b - 1) % m.room).toNat) with down := -1 }
    else (m.dload t (2 + (x.b - 1) % m.room)).setTh t { x with v := wd m.words (2 + (x.b - 1) % m.room).toNat, line := 6 }
  else if x.line = 6 then
    if wd m.words 0 = x.t then (m.dswap t x.t).setTh t { x with line := 7 }
    else ((m.dswap t x.t).point x c m.moves).setTh t { x with line := 8 }
  else if x.line = 7 then { (m.dstore t 1 (x.t + 1)).fin t x c 2 x.v with down := -1 }
  else { (m.dstore t 1 (x.t + 1)).fin t x c 3 0 with down := -1 }

def steal (m : DM) (t : Nat) (x : Th) (c : ACall) : DM :=
  if x.line = 1 then (m.dload t 0).setTh t { x with t := wd m.words 0, line := 2 }
  else if x.line = 2 then
    if wd m.words 1 ≤ x.t then (m.dload t 1).fin t { x with b := wd m.words 1 } { c with point := m.moves } 3 0
    else (m.dload t 1).setTh t { x with b := wd m.words 1, line := 3 }
  else if x.line = 3 then (m.dload t (2 + x.t % m.room)).setTh t { x with v := wd m.words (2 + x.t % m.room).toNat, line := 4 }
  else
    if wd m.words 0 = x.t then (m.dswap t x.t).fin t x { c with point := if 0 ≤ m.down ∧ m.last = x.t then m.down else m.moves } 2 x.v
    else (m.dswap t x.t).setTh t { x with line := 1 }

def noTh : Th := ⟨-1, 0, 0, 0, 0⟩
def th (m : DM) (t : Nat) : Th := m.all[t]?.getD noTh
def noCall : ACall := ⟨0, 0, 0, 0, 0, 0, 0, 0, 0⟩
def call (m : DM) (x : Th) : ACall := m.calls[x.call.toNat]?.getD noCall

def step (m : DM) (t : Nat) : DM :=
  let x := m.th t
  let c := m.call x
  if c.op = 90 then m.push t x c else if c.op = 91 then m.take t x c else if c.op = 92 then m.steal t x c else m

def begins (m : DM) (t : Nat) (op arg data : Int) : DM :=
  { m with all := m.all.set t ⟨m.calls.length, 1, 0, 0, 0⟩, calls := m.calls ++ [callNew t op arg data m.moves] }

/-- May a thread begin a call of that op? -/
def legal (th op : Int) : Bool := decide (op = 92) || (decide (op = 90) || decide (op = 91)) && decide (th = 0)

structure Mv where
  thread : Int
  op : Int
  arg : Int
  data : Int

/-- A move without the count of moves. -/
def move0 (m : DM) (v : Mv) : DM × Bool :=
  if v.thread < 0 ∨ (m.all.length : Int) ≤ v.thread then (m, false) else
  if v.op = 0 then (if (m.th v.thread.toNat).call < 0 then (m, false) else (m.step v.thread.toNat, true)) else
  if 0 ≤ (m.th v.thread.toNat).call ∨ legal v.thread v.op = false then (m, false) else (m.begins v.thread.toNat v.op v.arg v.data, true)

def move (m : DM) (v : Mv) : DM × Bool :=
  if 65536 ≤ m.moves then (m, false) else ({ (m.move0 v).1 with moves := m.moves + 1 }, (m.move0 v).2)

def init (threads room : Nat) : DM := { room := room, words := List.replicate (2 + room) 0, all := List.replicate threads noTh, calls := [], trace := [], moves := 0, down := -1, last := 0 }

end DM
end Go.Proofs.Ythifeaigdobonaa
