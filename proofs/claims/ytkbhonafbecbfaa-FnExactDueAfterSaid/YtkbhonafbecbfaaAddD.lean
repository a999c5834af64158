/- What a call of AddEvent returns; without a program; no condition. -/
import Derived.Test.YtkbhonafbecbfaaAddCel
namespace Go.Rd
open Go.Sort Go.RowKit
/-- The call returns the record with one more event, and whether it may be. -/
def RetAdd (w : World) (r : Rec) (e : Evt) (ok : Bool) (en : Ending) (w' : World) : Prop :=
  ∃ (i s m : Int) (a : Option Addr) (n c : Nat), en = .returned (.tuple #[.agg #[.int .i64 i, .int .i64 s, .int .i64 m, .slice a n c], .bool ok]) ∧ (ok = true → i = r.id ∧ s = r.se ∧ m = r.ma ∧ Rec.At w' (addR r e, .slice a n c)) ∧ Ext w w'
end Go.Rd
