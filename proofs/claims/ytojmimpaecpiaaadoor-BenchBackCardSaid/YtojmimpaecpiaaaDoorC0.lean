/- What 'Parse' tells, as a function. -/
import Derived.Test.YtojmimpaecpiaaaDoorB0
import Derived.Test.YtojmimpaecpiaaaDoorA3
import Derived.Test.YtojmimpaecpiaaaDoorA4
import Derived.Test.YtojmimpaecpiaaaDoorA5
import Derived.Test.YtojmimpaecpiaaaDoorA6
namespace Go.Proofs.YtojmimpaecpiaaaDoor
open Go.RowKit

def setF (c : UInt8) (n : Nat) (x : Dd) : Dd :=
  if c = 119 then { x with who := n } else if c = 110 then { x with n := n } else if c = 97 then { x with at_ := n } else if c = 111 then { x with op := n } else if c = 109 then { x with mask := n } else x
/-- The numbers that fill the fields. -/
def takeF : List UInt8 → List ByteArray → Dd → Option (Dd × List ByteArray)
  | [], l, x => some (x, l)
  | _ :: _, [], _ => none
  | c :: cs, r :: l, x => match numF r.data.toList with
    | none => none
    | some n => if c = 109 ∧ 255 < n then none else takeF cs l (setF c n x)
def endF (rest : UInt8) (x : Dd) : List ByteArray → Option Dd
  | [] => some x
  | [r] => if rest = 98 then (if hexOk r.data.toList then some { x with body := hexPairs r.data.toList } else none)
    else if rest = 107 then (if r.data.toList.all bitOk then some { x with keeps := bitsF r.data.toList } else none) else none
  | _ => none
def zeroD : Dd := ⟨0, 0, 0, 0, false, 0, 0, [], []⟩
def parseF (s : ByteArray) : Except Int Dd :=
  if 2200 < s.size then .error 3 else if noWords s then .error 4 else
    match formOf ((pieces s).headD ByteArray.empty).data.toList with
    | none => .error 6
    | some f => match takeF f.fields (pieces s).tail { zeroD with kind := f.kind, is := f.is } with
      | none => .error 2
      | some (x, l) => match endF f.rest x l with
        | none => .error 2
        | some y => .ok y
def ParsePost (w : World) (s : ByteArray) (e : Ending) (w' : World) : Prop :=
  (match parseF s with
    | .ok x => ∃ vb vk, e = .returned (.tuple #[.agg (x.cells vb vk), .int .i64 0]) ∧ Sl w' vb (byteCells x.body) ∧ Sl w' vk (x.keeps.map .bool)
    | .error n => e = .returned (.tuple #[.agg (zeroD.cells (.slice none 0 0) (.slice none 0 0)), .int .i64 n])) ∧ Below w.heap.size w w'
theorem parsePost_err {w w' : World} {s : ByteArray} {e : Ending} {n : Int} (h : parseF s = .error n) (he : e = .returned (.tuple #[.agg (zeroD.cells (.slice none 0 0) (.slice none 0 0)), .int .i64 n])) (hb : Below w.heap.size w w') : ParsePost w s e w' := by
  unfold ParsePost; rw [h]; exact ⟨he, hb⟩
theorem parsePost_ok {w w' : World} {s : ByteArray} {e : Ending} {x : Dd} (h : parseF s = .ok x) (vb vk : Value) (he : e = .returned (.tuple #[.agg (x.cells vb vk), .int .i64 0])) (h1 : Sl w' vb (byteCells x.body)) (h2 : Sl w' vk (x.keeps.map .bool)) (hb : Below w.heap.size w w') : ParsePost w s e w' := by
  unfold ParsePost; rw [h]; exact ⟨⟨vb, vk, he, h1, h2⟩, hb⟩
theorem split_size (sep : ByteArray) : ∀ (k : Nat) (s y : ByteArray), y ∈ Lib.splitB sep 0 k s → y.size ≤ s.size
  | 0, s, y, h => by simp [Lib.splitB] at h; rw [h]; exact Nat.le_refl _
  | k + 1, s, y, h => by
    unfold Lib.splitB at h
    split at h
    · simp at h; rw [h]; exact Nat.le_refl _
    · rcases List.mem_cons.1 h with rfl | h
      · rw [ByteArray.size_extract]; omega
      · have := split_size sep k _ y h
        rw [ByteArray.size_extract] at this; omega
theorem pieces_size (s y : ByteArray) (h : y ∈ pieces s) : y.size ≤ s.size := split_size _ _ s y h
/-- A store of a field, whatever the number. -/
def setI (c : UInt8) (v : Int) (x : Dd) : Dd :=
  if c = 119 then { x with who := v } else if c = 110 then { x with n := v } else if c = 97 then { x with at_ := v } else if c = 111 then { x with op := v } else if c = 109 then { x with mask := (v % 256).toNat } else x
theorem setI_nat (c : UInt8) (n : Nat) (x : Dd) (h : c ≠ 109 ∨ n ≤ 255) : setI c n x = setF c n x := by
  unfold setI setF
  repeat' split
  all_goals first | rfl | skip
  rename_i hc
  rcases h with h | h
  · exact absurd hc h
  · have : ((n : Int) % 256).toNat = n := by omega
    rw [this]
/-- How the lines with words go on. -/
theorem parse_at {s p0 : ByteArray} (h : ¬ 2200 < s.size) (hn : noWords s = false) (hp0 : (pieces s)[0]? = some p0) {fw ff : List UInt8} {fk : Int} {fi : Bool} {fr : UInt8} (hf : formOf p0.data.toList = some ⟨fw, fk, fi, ff, fr⟩) :
    parseF s = match takeF ff (pieces s).tail { zeroD with kind := fk, is := fi } with
      | none => .error 2
      | some (x, l) => match endF fr x l with
        | none => .error 2
        | some y => .ok y := by
  unfold parseF; rw [if_neg h, if_neg (by rw [hn]; decide)]
  have : (pieces s).headD ByteArray.empty = p0 := by
    cases hq : pieces s with
    | nil => rw [hq] at hp0; cases hp0
    | cons a r => rw [hq] at hp0; injection hp0
  rw [this, hf]
end Go.Proofs.YtojmimpaecpiaaaDoor
