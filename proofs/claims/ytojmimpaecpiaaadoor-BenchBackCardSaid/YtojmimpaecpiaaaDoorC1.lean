/- Parse. -/
import Derived.Test.YtojmimpaecpiaaaDoorC0
import Derived.Deep.DeepCutAuto
import Derived.Deep.LoopGhost
namespace Go.Proofs.YtojmimpaecpiaaaDoor
open Go.RowKit
set_option maxRecDepth 100000 in
set_option maxHeartbeats 4000000 in
theorem parse_long (s : ByteArray) (w : World) (h : 2200 < s.size) : Calls Tryd.prog 7 #[.string s] w (ParsePost w s) := by
  have hp : parseF s = .error 3 := by unfold parseF; rw [if_pos h]
  have Hp := hidd hp; clear hp
  go_enter Tryd.func7, Tryd.ntmps7
  go_wp2_with (fail)
  refine bodyPost_ret (v := .tuple #[.agg (zeroD.cells (.slice none 0 0) (.slice none 0 0)), .int .i64 3]) (by simp [results, Tryd.results7, go_sem, zeroD, Dd.cells]) rfl (parsePost_err Hp.out rfl ?_)
  with_reducible (repeat' (first | exact Below.refl _ _ | refine Below.drew ?_ | refine Below.setCell ?_ ?_ _ | refine Below.alloc ?_ ?_ _))
  all_goals (first | omega | (simp; omega) | simp)

set_option maxRecDepth 100000 in
set_option maxHeartbeats 4000000 in
theorem parse_none (s : ByteArray) (w : World) (hE : Env w) (h : ¬ 2200 < s.size) (hn : noWords s = true) : Calls Tryd.prog 7 #[.string s] w (ParsePost w s) := by
  have hp : parseF s = .error 4 := by unfold parseF; rw [if_neg h, if_pos hn]
  have Hp := hidd hp; clear hp
  have hneg := fun W a n c => Lib.run_eql_slice_nil (P := Tryd.prog) W 39 9 a n c 0 0 Tryd.underlying39
  go_enter Tryd.func7, Tryd.ntmps7
  go_wp2_with (fail)
  have hE1 : Env (w.alloc (.cells #[.int .i64 0, .int .i64 0, .int .i64 0, .int .i64 0, .bool false, .int .u8 0, .int .i64 0, .slice none 0 0, .slice none 0 0] 25)) := hE.below ((Below.refl _ _).alloc (Nat.le_refl _) _)
  refine (words_any s _ hE1 (by omega)).mono ?_
  rintro e w1 ⟨hc, hb⟩
  rcases hc with ⟨_, rfl⟩ | ⟨hno, _⟩
  case inr => rw [hn] at hno; cases hno
  have hblk : w1.heap[w.heap.size]? = some (.cells #[.int .i64 0, .int .i64 0, .int .i64 0, .int .i64 0, .bool false, .int .u8 0, .int .i64 0, .slice none 0 0, .slice none 0 0] 25 (0, 0)) := (hb.block w.heap.size (by simp)).trans (heap_alloc_new w _)
  have hb' : Below w.heap.size w w1 := ((Below.refl _ _).alloc (Nat.le_refl _) _).trans (hb.mono (by simp))
  have Hblk := hidd hblk
  clear hb hblk
  have c0 : w1.cell? ⟨w.heap.size, 0, none⟩ = some (.int .i64 0) := by simp [World.cell?, Hblk.out]
  have c1 : w1.cell? ⟨w.heap.size, 1, none⟩ = some (.int .i64 0) := by simp [World.cell?, Hblk.out]
  have c2 : w1.cell? ⟨w.heap.size, 2, none⟩ = some (.int .i64 0) := by simp [World.cell?, Hblk.out]
  have c3 : w1.cell? ⟨w.heap.size, 3, none⟩ = some (.int .i64 0) := by simp [World.cell?, Hblk.out]
  have c4 : w1.cell? ⟨w.heap.size, 4, none⟩ = some (.bool false) := by simp [World.cell?, Hblk.out]
  have c5 : w1.cell? ⟨w.heap.size, 5, none⟩ = some (.int .u8 0) := by simp [World.cell?, Hblk.out]
  have c6 : w1.cell? ⟨w.heap.size, 6, none⟩ = some (.int .i64 0) := by simp [World.cell?, Hblk.out]
  have c7 : w1.cell? ⟨w.heap.size, 7, none⟩ = some (.slice none 0 0) := by simp [World.cell?, Hblk.out]
  have c8 : w1.cell? ⟨w.heap.size, 8, none⟩ = some (.slice none 0 0) := by simp [World.cell?, Hblk.out]
  have z0 := free_of_cells Hblk.out 0
  have z1 := free_of_cells Hblk.out 1
  have z2 := free_of_cells Hblk.out 2
  have z3 := free_of_cells Hblk.out 3
  have z4 := free_of_cells Hblk.out 4
  have z5 := free_of_cells Hblk.out 5
  have z6 := free_of_cells Hblk.out 6
  have z7 := free_of_cells Hblk.out 7
  have z8 := free_of_cells Hblk.out 8
  go_wp2_with (fail)
  refine bodyPost_ret (v := .tuple #[.agg (zeroD.cells (.slice none 0 0) (.slice none 0 0)), .int .i64 4]) (by simp [results, Tryd.results7, go_sem, zeroD, Dd.cells, c0, c1, c2, c3, c4, c5, c6, c7, c8]) rfl (parsePost_err Hp.out rfl ?_)
  with_reducible (repeat' (first | exact hb' | refine Below.drew ?_ | refine Below.setCell ?_ ?_ _ | refine Below.alloc ?_ ?_ _))
  all_goals (first | omega | (simp; omega) | simp)
end Go.Proofs.YtojmimpaecpiaaaDoor
