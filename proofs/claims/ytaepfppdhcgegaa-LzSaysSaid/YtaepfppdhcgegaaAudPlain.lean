/- Acks, records, fetches as lists; the values that stand for them. -/
import Derived.WalkKit
namespace Go.PostAud
structure Pid where
  prod : Int
  seq : Int
deriving DecidableEq
structure Ack where
  step : Int
  id : Pid
  err : Int
  base : Int
  count : Int
deriving DecidableEq
structure Rec where
  off : Int
  key : ByteArray
  value : ByteArray
  gone : Bool
deriving DecidableEq
def i64 (x : Int) : Prop := (Lit.int .i64 x).wf = true
def Ack.wf (a : Ack) : Prop := i64 a.step ∧ (i64 a.id.prod ∧ i64 a.id.seq) ∧ i64 a.err ∧ i64 a.base ∧ i64 a.count
def Pid.v (a : Pid) : Value := .agg #[.int .i64 a.prod, .int .i64 a.seq]
def Ack.v (a : Ack) : Value := .agg #[.int .i64 a.step, .int .i64 a.id.prod, .int .i64 a.id.seq, .int .i64 a.err, .int .i64 a.base, .int .i64 a.count]
def Rec.v (a : Rec) : Value := .agg #[.int .i64 a.off, .string a.key, .string a.value, .bool a.gone]
/-- is an ack good? -/
def good (a : Ack) : Bool := decide (a.err = 0) && decide (0 ≤ a.base) && decide (a.base ≤ 1099511627776) && decide (1 ≤ a.count) && decide (a.count ≤ 256)
/-- have two acks an offset in common? -/
def meets (a b : Ack) : Bool := decide (a.base < b.base + b.count) && decide (b.base < a.base + a.count)
def bare (r : Rec) : Rec := { r with off := 0 }
end Go.PostAud
