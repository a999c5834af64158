/- Clerks and their rights as plain functions; without a program; no condition. -/
import Derived.Test.YtlablieekijgoaaDoorTextData
import Derived.Test.YtlablieekijgoaaDoorWordData
namespace Go.Rd
open Go.Sort Go.RowKit
def bAnd (x y : Int) : Int := bits .and .i64 x y
def bOr (x y : Int) : Int := bits .or .i64 x y
def bothR (r : Int) : Bool := decide (bAnd r 10 = 10)
def okClk (x : Clk) : Bool := inB x.id 1 99 && (okW x.na && (inB x.ri 0 15 && (!bothR x.ri && (inB x.un 0 20000 && (inB x.fr 0 x.un && (inB x.st 0 99 && decide (x.st ≠ x.id)))))))
/-- The first clerk with an id. -/
def atC (l : List Clk) (id : Int) : Option Nat := l.findIdx? fun x => x.id == id
def atI (l : List Clk) (id : Int) : Int := match atC l id with | some k => k | none => -1
/-- The test of one clerk of a list at a place, as the program makes it. -/
def okAt (l : List Clk) (k : Nat) : Bool :=
  match l[k]? with
  | none => true
  | some x => okClk x && (!(decide (0 < k) && decide ((l.getD (k - 1) default).id ≥ x.id)) && (!decide (x.st > 0) || (match atC l x.st with | none => false | some j => decide ((l.getD j default).st = 0))))
def goodC (l : List Clk) : Bool := ((List.range l.length).all fun k => okAt l k) && decide (l.length ≤ 8)
end Go.Rd
