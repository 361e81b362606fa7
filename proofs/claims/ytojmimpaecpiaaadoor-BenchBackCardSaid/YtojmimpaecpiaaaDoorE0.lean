/- parses, refused. -/
import Derived.Test.YtojmimpaecpiaaaDoorC3
import Derived.Test.YtojmimpaecpiaaaDoorA2
namespace Go.Proofs.YtojmimpaecpiaaaDoor
open Go.RowKit

theorem parse_yes {s : ByteArray} {x : Dd} (hp : parseF s = .ok x) (w : World) (hE : Env w) : Calls Tryd.prog 7 #[.string s] w fun e w' =>
    ∃ vb vk, e = .returned (.tuple #[.agg (x.cells vb vk), .int .i64 0]) ∧ Sl w' vb (byteCells x.body) ∧ Sl w' vk (x.keeps.map .bool) ∧ Below w.heap.size w w' := by
  refine (parse_any s w hE).mono fun e w' h => ?_
  unfold ParsePost at h
  rw [hp] at h
  obtain ⟨⟨vb, vk, h1, h2, h3⟩, h4⟩ := h
  exact ⟨vb, vk, h1, h2, h3, h4⟩
theorem parse_no {s : ByteArray} {n : Int} (hp : parseF s = .error n) (w : World) (hE : Env w) : Calls Tryd.prog 7 #[.string s] w fun e w' =>
    e = .returned (.tuple #[.agg (zeroD.cells (.slice none 0 0) (.slice none 0 0)), .int .i64 n]) ∧ Below w.heap.size w w' := by
  refine (parse_any s w hE).mono fun e w' h => ?_
  unfold ParsePost at h
  rw [hp] at h
  exact h

set_option maxRecDepth 100000 in
set_option maxHeartbeats 4000000 in
theorem refused_yes {s : ByteArray} {n : Int} (hp : parseF s = .error n) (w : World) (hE : Env w) : Calls Tryd.prog 8 #[.string s, .int .i64 n] w fun e w' => e = .returned (.bool true) ∧ Below w.heap.size w w' := by
  have Hp := hidd hp; clear hp
  go_enter Tryd.func8, Tryd.ntmps8
  go_wp2_with (fail)
  refine (parse_no Hp.out _ hE).mono ?_
  rintro e w1 ⟨rfl, hb⟩
  simp only [Dd.cells, zeroD]
  go_wp2_with (fail)
  refine bodyPost_ret (v := .bool true) (by simp [results, Tryd.results8, go_sem]) rfl ⟨rfl, ?_⟩
  with_reducible (repeat' (first | exact hb | refine Below.drew ?_ | refine Below.setCell ?_ ?_ _ | refine Below.alloc ?_ ?_ _))
  all_goals (have := hb.size; first | omega | (simp; omega) | simp)

set_option maxRecDepth 100000 in
set_option maxHeartbeats 8000000 in
theorem parses_yes {s : ByteArray} {x : Dd} (hp : parseF s = .ok x) (vb vk : Value) (w : World) (hE : Env w) (hvb : Sl w vb (byteCells x.body)) (hvk : Sl w vk (x.keeps.map .bool)) (hkl : x.keeps.length ≤ 2500) :
    Calls Tryd.prog 6 #[.string s, .agg (x.cells vb vk)] w fun e w' => e = .returned (.bool true) ∧ Below w.heap.size w w' := by
  have Hp := hidd hp; clear hp
  have hB0 : Below w.heap.size w (w.alloc (.cells (x.cells vb vk) 25)) := (Below.refl _ _).alloc (Nat.le_refl _) _
  have hE1 := hE.below hB0
  have hvb1 := hvb.below hB0
  have hvk1 := hvk.below hB0
  have hself : (x.body == x.body) = true := by simp
  have hself2 : (x.keeps == x.keeps) = true := by simp
  obtain ⟨xk, xw, xn, xa, xi, xm, xo, xb, xp⟩ := x
  simp only [Dd.cells] at *
  obtain ⟨A, c, rfl, -, -⟩ := id hvb
  obtain ⟨A', c', rfl, -, -⟩ := id hvk
  rw [List.length_map] at *
  have Hvb := hidd hvb1; have Hvk := hidd hvk1
  clear hvb hvk hvb1 hvk1
  go_enter Tryd.func6, Tryd.ntmps6
  go_wp2_with (fail)
  refine (parse_yes Hp.out _ hE1).mono ?_
  rintro e w1 ⟨vb', vk', rfl, h1, h2, hb⟩
  simp only [Dd.cells] at *
  obtain ⟨B, d, rfl, -, -⟩ := id h1
  obtain ⟨B', d', rfl, -, -⟩ := id h2
  rw [List.length_map] at *
  have hblk := (hb.block w.heap.size (by simp)).trans (heap_alloc_new w _)
  have hlt : w.heap.size < w1.heap.size := lt_of_block hblk
  have c0 : w1.cell? ⟨w.heap.size, 0, none⟩ = some (.int .i64 xk) := by simp [World.cell?, hblk]
  have c1 : w1.cell? ⟨w.heap.size, 1, none⟩ = some (.int .i64 xw) := by simp [World.cell?, hblk]
  have c2 : w1.cell? ⟨w.heap.size, 2, none⟩ = some (.int .i64 xn) := by simp [World.cell?, hblk]
  have c3 : w1.cell? ⟨w.heap.size, 3, none⟩ = some (.int .i64 xa) := by simp [World.cell?, hblk]
  have c4 : w1.cell? ⟨w.heap.size, 4, none⟩ = some (.bool xi) := by simp [World.cell?, hblk]
  have c5 : w1.cell? ⟨w.heap.size, 5, none⟩ = some (.int .u8 xm) := by simp [World.cell?, hblk]
  have c6 : w1.cell? ⟨w.heap.size, 6, none⟩ = some (.int .i64 xo) := by simp [World.cell?, hblk]
  have c7 : w1.cell? ⟨w.heap.size, 7, none⟩ = some (.slice A (byteCells xb).length c) := by simp [World.cell?, hblk]
  have c8 : w1.cell? ⟨w.heap.size, 8, none⟩ = some (.slice A' xp.length c') := by simp [World.cell?, hblk]
  have H1 := hidd h1; have H2 := hidd h2; have Hb := hidd hb; have Hs := hidd hself; have Hs2 := hidd hself2; have HB0 := hidd hB0
  clear h1 h2 hb hblk hself hself2 hB0
  have hB2 : ∀ o, Below w1.heap.size w1 (w1.alloc o) := fun o => (Below.refl _ _).alloc (Nat.le_refl _) o
  have HB2 := hidd hB2; clear hB2
  go_wp2_with (fail)
  refine (sameBytes_any xb xb _ _ _ (H1.out.below (HB2.out _)) ((Hvb.out.below Hb.out).below (HB2.out _))).mono ?_
  rintro e w2 ⟨rfl, rfl⟩
  rw [Hs.out]
  go_wp2_with (fail)
  refine (sameBools_any xp xp _ _ _ (H2.out.below (HB2.out _)) ((Hvk.out.below Hb.out).below (HB2.out _)) (by omega)).mono ?_
  rintro e w2 ⟨rfl, k, rfl⟩
  rw [Hs2.out]
  go_wp2_with (fail)
  refine bodyPost_ret (v := .bool true) (by simp [results, Tryd.results6, go_sem]) rfl ⟨rfl, ?_⟩
  have h0 : Below w.heap.size w w1 := HB0.out.trans (Hb.out.mono (by simp))
  exact blw_drewN (h0.alloc (Nat.le_of_lt hlt) _) k
end Go.Proofs.YtojmimpaecpiaaaDoor
