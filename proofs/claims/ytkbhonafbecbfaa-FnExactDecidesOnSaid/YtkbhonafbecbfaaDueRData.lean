/- Records that are due, next due or not scheduled, as plain functions; without a program; no condition. -/
import Derived.Test.YtkbhonafbecbfaaDecData
namespace Go.Rd
def notP (sch : List Rul) (r : Rec) : Bool := decide ((forR sch r.se).length = 0)
theorem notL_yes {l : List Rec} {sch : List Rul} (h : allOk l sch = true) : notL l sch = (l.filter (notP sch)).map (·.id) := if_pos h
theorem notL_no {l : List Rec} {sch : List Rul} (h : allOk l sch = false) : notL l sch = [] := if_neg (by rw [h]; exact Bool.false_ne_true)
theorem notL_length (l : List Rec) (sch : List Rul) : (notL l sch).length ≤ l.length := by
  unfold notL; split
  · rw [List.length_map]; exact List.length_filter_le _ _
  · simp
def dueP (sch : List Rul) (day act : Int) (r : Rec) : Bool := (decD r sch).1.ac == act && inB (decD r sch).2 0 day
def dueOk (l : List Rec) (sch : List Rul) (day act : Int) : Bool := allOk l sch && inB day 0 20000 && inB act 1 3
def dueL (l : List Rec) (sch : List Rul) (day act : Int) : List Int := if dueOk l sch day act = true then (l.filter (dueP sch day act)).map (·.id) else []
theorem dueL_yes {l : List Rec} {sch : List Rul} {day act : Int} (h : dueOk l sch day act = true) : dueL l sch day act = (l.filter (dueP sch day act)).map (·.id) := if_pos h
theorem dueL_no {l : List Rec} {sch : List Rul} {day act : Int} (h : dueOk l sch day act = false) : dueL l sch day act = [] := if_neg (by rw [h]; exact Bool.false_ne_true)
theorem dueL_length (l : List Rec) (sch : List Rul) (day act : Int) : (dueL l sch day act).length ≤ l.length := by
  unfold dueL; split
  · rw [List.length_map]; exact List.length_filter_le _ _
  · simp
def nless (s : Option (Int × Int)) (d : Int) : Bool := match s with | none => true | some t => decide (d < t.2)
/-- The record that is due next: its number and day. -/
def nstep (sch : List Rul) (day : Int) (s : Option (Int × Int)) (r : Rec) : Option (Int × Int) :=
  if (decide (day < (decD r sch).2) && nless s (decD r sch).2) = true then some (r.id, (decD r sch).2) else s
def nextF (l : List Rec) (sch : List Rul) (day : Int) : Option (Int × Int) := l.foldl (nstep sch day) none
def nextOk (l : List Rec) (sch : List Rul) (day : Int) : Bool := allOk l sch && inB day 0 20000
def nextO (l : List Rec) (sch : List Rul) (day : Int) : Option (Int × Int) := if nextOk l sch day = true then nextF l sch day else none
theorem nextO_yes {l : List Rec} {sch : List Rul} {day : Int} (h : nextOk l sch day = true) : nextO l sch day = nextF l sch day := if_pos h
theorem nextO_no {l : List Rec} {sch : List Rul} {day : Int} (h : nextOk l sch day = false) : nextO l sch day = none := if_neg (by rw [h]; exact Bool.false_ne_true)
theorem nextF_step {l : List Rec} {sch : List Rul} {day : Int} {k : Nat} {r : Rec} (h : l[k]? = some r) : nextF (l.take (k + 1)) sch day = nstep sch day (nextF (l.take k) sch day) r := by
  unfold nextF; rw [List.take_add_one, h, List.foldl_append]; rfl
theorem nstep_no {sch : List Rul} {day : Int} {s : Option (Int × Int)} {r : Rec} (h : (decide (day < (decD r sch).2) && nless s (decD r sch).2) = false) : nstep sch day s r = s := if_neg (by rw [h]; exact Bool.false_ne_true)
theorem nstep_yes {sch : List Rul} {day : Int} {s : Option (Int × Int)} {r : Rec} (h : (decide (day < (decD r sch).2) && nless s (decD r sch).2) = true) : nstep sch day s r = some (r.id, (decD r sch).2) := if_pos h
end Go.Rd
