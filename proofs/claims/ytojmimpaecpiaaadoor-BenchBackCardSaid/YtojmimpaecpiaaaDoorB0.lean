/- Deeds as records; what 'Text' tells, as a function. No walk. -/
import Derived.Test.YtojmimpaecpiaaaDoorForms2
import Derived.Test.YtojmimpaecpiaaaDoorPure
import Derived.Test.YtojmimpaecpiaaaDoorA7
import Derived.Test.YtojmimpaecpiaaaDoorA8
import Derived.Lib.Join
namespace Go.Proofs.YtojmimpaecpiaaaDoor
open Go.RowKit

/-- A deed. -/
structure Dd where
  kind : Int
  who : Int
  n : Int
  at_ : Int
  is : Bool
  mask : Nat
  op : Int
  body : List UInt8
  keeps : List Bool
/-- Its cells, its lists as these values. -/
def Dd.cells (x : Dd) (vb vk : Value) : Array Value := #[.int .i64 x.kind, .int .i64 x.who, .int .i64 x.n, .int .i64 x.at_, .bool x.is, .int .u8 x.mask, .int .i64 x.op, vb, vk]
/-- The number that a field's letter names. -/
def getF (c : UInt8) (x : Dd) : Int :=
  if c = 119 then x.who else if c = 110 then x.n else if c = 97 then x.at_ else if c = 111 then x.op else if c = 109 then x.mask else 0
def clrF (x : Dd) (c : UInt8) : Dd :=
  if c = 119 then { x with who := 0 } else if c = 110 then { x with n := 0 } else if c = 97 then { x with at_ := 0 } else if c = 111 then { x with op := 0 } else if c = 109 then { x with mask := 0 } else x
def numOk (n : Int) : Bool := decide (0 ≤ n) && decide (n ≤ 1073741824)
/-- What is left of a deed: nothing. -/
def Dd.bare (x : Dd) : Bool := x.who == 0 && x.n == 0 && x.at_ == 0 && !x.is && x.mask == 0 && x.op == 0
def left0 (x : Dd) : Dd := { x with kind := 0, is := x.is && x.kind != 7 }
def restOf (f : Form) (x : Dd) : List (List UInt8) :=
  if f.rest = 98 then (if x.body = [] then [] else [hexF x.body]) else if f.rest = 107 then (if x.keeps = [] then [] else [marksF x.keeps]) else []
def restOk (f : Form) (x : Dd) : Bool := (x.body.isEmpty || f.rest == 98) && (x.keeps.isEmpty || f.rest == 107)
def wordsOf (f : Form) (x : Dd) : List (List UInt8) := f.w :: (f.fields.map fun c => Lib.itoa (getF c x)) ++ restOf f x
/-- The line of a deed, or the error's number. -/
def textF (x : Dd) : Except Int (List UInt8) :=
  match formFor x.kind x.is with
  | none => .error 2
  | some f =>
    if f.fields.all (fun c => numOk (getF c x)) && (f.fields.foldl clrF (left0 x)).bare && restOk f x then
      if (Lib.join (wordsOf f x) [32]).length > 2200 then .error 3 else .ok (Lib.join (wordsOf f x) [32])
    else .error 2
def TextPost (w : World) (x : Dd) (e : Ending) (w' : World) : Prop :=
  (match textF x with
    | .ok s => e = .returned (.tuple #[.string ⟨s.toArray⟩, .int .i64 0])
    | .error n => e = .returned (.tuple #[.string ⟨#[]⟩, .int .i64 n])) ∧ Below w.heap.size w w'
end Go.Proofs.YtojmimpaecpiaaaDoor
