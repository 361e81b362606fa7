/- The small closures of words and reader. -/
import Derived.Test.YtojmimpaecpiaaaDoorBase
namespace Go.Proofs.YtojmimpaecpiaaaDoor
open Go.RowKit

set_option maxHeartbeats 400000 in
theorem w1_any (r : Int) (w : World) :
    Calls Tryd.prog 28 #[.int .i32 r] w fun e w' => e = .returned (.bool (decide (r < 33) || decide (126 < r))) ∧ w = w' := by
  by_cases h : r < 33
  · go_enter Tryd.func28, Tryd.ntmps28
    go_wp2
    go_ret
    simp [h]
  · go_enter Tryd.func28, Tryd.ntmps28
    go_wp2
    go_ret
    exact ⟨by simp [Int.not_lt.2 h], rfl⟩

set_option maxHeartbeats 400000 in
theorem r2_any (g : Nat) (v : Value) (w : World) (hc : w.cell? ⟨g, 0, none⟩ = some v) :
    Calls Tryd.prog 31 #[.pointer (some ⟨g, 0, none⟩)] w fun e w' => e = .returned v ∧ w = w' := by
  go_enter Tryd.func31, Tryd.ntmps31
  go_wp2
  go_ret
  exact ⟨rfl, rfl⟩
set_option maxHeartbeats 400000 in
theorem r3_any (g : Nat) (v : Value) (w : World) (hc : w.cell? ⟨g, 0, none⟩ = some v) :
    Calls Tryd.prog 32 #[.pointer (some ⟨g, 0, none⟩)] w fun e w' => e = .returned v ∧ w = w' := by
  go_enter Tryd.func32, Tryd.ntmps32
  go_wp2
  go_ret
  exact ⟨rfl, rfl⟩
set_option maxHeartbeats 400000 in
theorem reader_any (v : Value) (w : World) (h1 : v.oneCell' = true) :
    Calls Tryd.prog 18 #[v] w fun e w' => e = .returned (.tuple #[.func (.func 29) #[] #[.pointer (some ⟨w.heap.size + 1, 0, none⟩), .pointer (some ⟨w.heap.size, 0, none⟩)], .func (.func 31) #[] #[.pointer (some ⟨w.heap.size, 0, none⟩)], .func (.func 32) #[] #[.pointer (some ⟨w.heap.size + 1, 0, none⟩)]]) ∧ (w.alloc (.cells #[v] 39)).alloc (.cells #[.bool true] 4) = w' := by
  go_enter Tryd.func18, Tryd.ntmps18
  go_wp2
  go_ret3
  exact ⟨rfl, rfl⟩
end Go.Proofs.YtojmimpaecpiaaaDoor
