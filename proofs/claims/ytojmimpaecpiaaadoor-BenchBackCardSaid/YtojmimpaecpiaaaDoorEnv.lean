/- What a call may lean on: the listed variables, and that they stay. -/
import Derived.Test.YtojmimpaecpiaaaDoorBase
import Derived.Test.YtojmimpaecpiaaaDoorShelf
import Derived.Test.YtojmimpaecpiaaaDoorPure
import Derived.ChangeAgain
import Derived.Sort.Grow
namespace Go.Proofs.YtojmimpaecpiaaaDoor
open Go.RowKit

/-- The variables that the library's functions read, as they are laid. -/
structure Env (w : World) : Prop where
  shaped : w.ShapedOpen Tryd.prog
  pow : Lib.TabIs Tryd.prog w "internal/strconv.uint64pow10" .u64 Lib.pow10Tab
  syn : ∃ tp p, w.var? Tryd.prog "strconv.ErrSyntax" = some #[.iface tp p]
  ran : ∃ tp p, w.var? Tryd.prog "strconv.ErrRange" = some #[.iface tp p]
  size : 8 ≤ w.heap.size
theorem gPow : Tryd.prog.globalNamed "internal/strconv.uint64pow10" = some 0 := by kernel_rfl
theorem gSyn : Tryd.prog.globalNamed "strconv.ErrSyntax" = some 2 := by kernel_rfl
theorem gRan : Tryd.prog.globalNamed "strconv.ErrRange" = some 3 := by kernel_rfl
theorem below_grow' (w : World) (k : Nat) (os : Array Obj) : Below w.heap.size w (Sort.grow (w.drewN k) os) := by
  refine ⟨rfl, rfl, rfl, ?_, fun i hi => ?_⟩
  · show w.heap.size ≤ (w.heap ++ os).size
    rw [Array.size_append]; omega
  · show (w.heap ++ os)[i]? = w.heap[i]?
    rw [Array.getElem?_append_left hi]
theorem Env.below {w w' : World} (h : Env w) (hb : Below w.heap.size w w') : Env w' := by
  obtain ⟨tp, p, hs⟩ := h.syn
  obtain ⟨tp', p', hr⟩ := h.ran
  refine ⟨h.shaped.keptBut (hb.frame (fun _ => False)) (fun _ h => h.elim), var?_below hb gPow (by have := h.size; omega) h.pow, ⟨tp, p, ?_⟩, ⟨tp', p', ?_⟩, Nat.le_trans h.size hb.size⟩
  · exact var?_below hb gSyn (by have := h.size; omega) hs
  · exact var?_below hb gRan (by have := h.size; omega) hr
end Go.Proofs.YtojmimpaecpiaaaDoor
