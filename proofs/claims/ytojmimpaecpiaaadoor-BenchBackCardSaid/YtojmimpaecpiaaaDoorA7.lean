/- marks, hexOf. -/
import Derived.Test.YtojmimpaecpiaaaDoorA6
import Derived.Test.YtojmimpaecpiaaaDoorBld
namespace Go.Proofs.YtojmimpaecpiaaaDoor
open Go.RowKit

def markOf (b : Bool) : UInt8 := if b then 49 else 48
def marksF (l : List Bool) : List UInt8 := l.map markOf
theorem fill_set2 {w : World} {g n k : Nat} {l : List UInt8} {x : UInt8} {u : Value} (hk : k < n) (hl : l.length = n) (h : w.heap[g]? = some (.cells (fillRow l n k) 5 (0, 0))) (hx : l[k]? = some x) :
    ((w.setCell ⟨g, k, none⟩ u).setCell ⟨g, k, none⟩ (.int .u8 x.toNat)).heap[g]? = some (.cells (fillRow l n (k + 1)) 5 (0, 0)) := by
  have : ((w.setCell ⟨g, k, none⟩ u).setCell ⟨g, k, none⟩ (.int .u8 x.toNat)).heap[g]? = some (.cells (((fillRow l n k).setIfInBounds k u).setIfInBounds k (.int .u8 x.toNat)) 5 (0, 0)) := by
    simp [World.setCell, Array.getElem?_modify, h]
  rw [this, Array.setIfInBounds_setIfInBounds, fillRow_set l n k x hk hl hx]
set_option maxRecDepth 100000 in
set_option maxHeartbeats 1000000 in
theorem marks_any (l : List Bool) (v : Value) (w : World) (hv : Sl w v (l.map .bool)) (hs : l.length ≤ 2500) :
    Calls Tryd.prog 12 #[v] w fun e w' => e = .returned (.string ⟨(marksF l).toArray⟩) ∧ Below w.heap.size w w' := by
  have hmk := run_make_bytes l.length hs
  obtain ⟨A, c, rfl, hc, hx⟩ := hv
  rw [List.length_map] at *
  have hmlen : (marksF l).length = l.length := by simp [marksF]
  generalize hn : l.length = n at *
  have Hn := hidd hn; have Hm := hidd hmlen; clear hn hmlen
  go_enter Tryd.func12, Tryd.ntmps12
  go_wp2
  go_loopw [11] (fun i wr => ∃ k : Nat, k ≤ n ∧ i = .int .i64 k ∧ wr.heap[w.heap.size]? = some (.cells (fillRow (marksF l) n k) 5 (0, 0)) ∧ Below w.heap.size w wr) (fun i _ => n - (intOf i).toNat)
  case atStart => exact ⟨0, Nat.zero_le _, rfl, by rw [fillRow_zero]; exact heap_alloc_new w _, (Below.refl _ _).alloc (Nat.le_refl _) _⟩
  case round =>
    obtain ⟨k, hk, rfl, hrow, hbw⟩ := hrel
    by_cases hlt : k < n
    · obtain ⟨b, o, rfl, hlt2, hcell⟩ := hx (fun h => by have := congrArg List.length h; simp [Hn.out] at this; omega)
      obtain ⟨u, hu⟩ : ∃ u, l[k]? = some u := ⟨_, List.getElem?_eq_getElem (by rw [Hn.out]; exact hlt)⟩
      have g : wr.cell? ⟨b, o + k, none⟩ = some (.bool u) := (hbw.cell (p := ⟨b, o + k, none⟩) hlt2).trans (by
        rw [hcell k (by rw [List.length_map, Hn.out]; exact hlt)]
        obtain ⟨hj, e⟩ := List.getElem?_eq_some_iff.1 hu
        simp [e])
      clear hcell
      have hx : (marksF l)[k]? = some (markOf u) := by simp [marksF, hu]
      obtain ⟨v0, hv0⟩ := fill_cell hk Hm.out hrow hlt
      have hf0 := free_of_cells hrow k
      have Hrow := hidd hrow; have Hx := hidd hx
      clear hrow hx hu
      have hne : ¬ b = w.heap.size := by omega
      cases u with
      | false =>
        go_wp2_with (fail)
        go_roundw
        case rel => exact ⟨k + 1, by omega, by go_num, fill_set hlt Hm.out Hrow.out Hx.out, hbw.setCell (Nat.le_refl _) _⟩
        case measure => simp [intOf]; omega
      | true =>
        go_wp2_with (fail)
        go_roundw
        case rel => exact ⟨k + 1, by omega, by go_num, fill_set2 hlt Hm.out Hrow.out Hx.out, (hbw.setCell (Nat.le_refl _) _).setCell (Nat.le_refl _) _⟩
        case measure => simp [intOf]; omega
    · obtain rfl : k = n := by omega
      have hconv := (Sl.of_row k Hm.out hrow).string
      go_wp2_with (fail)
      go_ret
      exact ⟨rfl, hbw⟩
end Go.Proofs.YtojmimpaecpiaaaDoor
