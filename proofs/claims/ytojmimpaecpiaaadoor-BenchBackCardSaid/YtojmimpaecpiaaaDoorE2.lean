/- awake, BenchBack. -/
import Derived.Test.YtojmimpaecpiaaaDoorE0
import Derived.Test.YtojmimpaecpiaaaDoorE1
namespace Go.Proofs.YtojmimpaecpiaaaDoor
open Go.RowKit

theorem text_yes (x : Dd) {l : List UInt8} (ht : textF x = .ok l) (vb vk : Value) (w : World) (hE : Env w) (hvb : Sl w vb (byteCells x.body)) (hvk : Sl w vk (x.keeps.map .bool)) (hbl : x.body.length ≤ 1200) (hkl : x.keeps.length ≤ 2500) (hm : x.mask ≤ 255) :
    Calls Tryd.prog 5 #[.agg (x.cells vb vk)] w fun e w' => e = .returned (.tuple #[.string ⟨l.toArray⟩, .int .i64 0]) ∧ Below w.heap.size w w' := by
  refine (text_any x vb vk w hE hvb hvk hbl hkl hm).mono fun e w' h => ?_
  unfold TextPost at h
  rw [ht] at h; exact h
theorem text_no (x : Dd) {n : Int} (ht : textF x = .error n) (vb vk : Value) (w : World) (hE : Env w) (hvb : Sl w vb (byteCells x.body)) (hvk : Sl w vk (x.keeps.map .bool)) (hbl : x.body.length ≤ 1200) (hkl : x.keeps.length ≤ 2500) (hm : x.mask ≤ 255) :
    Calls Tryd.prog 5 #[.agg (x.cells vb vk)] w fun e w' => e = .returned (.tuple #[.string ⟨#[]⟩, .int .i64 n]) ∧ Below w.heap.size w w' := by
  refine (text_any x vb vk w hE hvb hvk hbl hkl hm).mono fun e w' h => ?_
  unfold TextPost at h
  rw [ht] at h; exact h
theorem textF_err {x : Dd} {n : Int} (h : textF x = .error n) : n = 2 ∨ n = 3 := by
  unfold textF at h
  repeat' split at h
  all_goals (cases h <;> simp)
theorem parseF_err {s : ByteArray} {n : Int} (h : parseF s = .error n) : n = 2 ∨ n = 3 ∨ n = 4 ∨ n = 6 := by
  unfold parseF at h
  repeat' split at h
  all_goals (cases h <;> simp)

set_option maxRecDepth 100000 in
set_option maxHeartbeats 4000000 in
theorem awake_any (w : World) (hE : Env w) : Calls Tryd.prog 4 #[] w fun e w' => e = .returned (.bool true) ∧ Below w.heap.size w w' := by
  go_enter Tryd.func4, Tryd.ntmps4
  go_wp2_with (fail)
  refine (parses_yes cut_line (.slice none 0 0) (.slice none 0 0) w hE (Sl.nil _) (Sl.nil _) (by simp)).mono ?_
  rintro e w1 ⟨rfl, h1⟩
  have hE1 := hE.below h1
  go_wp2_with (fail)
  refine (parses_yes join_line (.slice none 0 0) (.slice none 0 0) w1 hE1 (Sl.nil _) (Sl.nil _) (by simp)).mono ?_
  rintro e w2 ⟨rfl, h2⟩
  have hE2 := hE1.below h2
  go_wp2_with (fail)
  refine (refused_yes tick_line w2 hE2).mono ?_
  rintro e w3 ⟨rfl, h3⟩
  have hE3 := hE2.below h3
  go_wp2_with (fail)
  refine (refused_yes x_line w3 hE3).mono ?_
  rintro e w4 ⟨rfl, h4⟩
  go_wp2_with (fail)
  refine bodyPost_ret (v := .bool true) (by simp [results, Tryd.results4, go_sem]) rfl ⟨rfl, ?_⟩
  exact ((h1.trans (h2.mono h1.size)).trans (h3.mono (Nat.le_trans h1.size h2.size))).trans (h4.mono (Nat.le_trans h1.size (Nat.le_trans h2.size h3.size)))

set_option maxRecDepth 100000 in
set_option maxHeartbeats 12000000 in
theorem bench_b1 (x : Dd) (vb vk : Value) (s : ByteArray) (w : World) (hE : Env w) (hvb : Sl w vb (byteCells x.body)) (hvk : Sl w vk (x.keeps.map .bool)) (h : 1200 < x.body.length) :
    Calls Tryd.prog 3 #[.agg (x.cells vb vk), .string s] w fun e w' => e = .returned (.bool true) ∧ Below w.heap.size w w' := by
  have hB0 : Below w.heap.size w (w.alloc (.cells (x.cells vb vk) 25)) := (Below.refl _ _).alloc (Nat.le_refl _) _
  have hE1 := hE.below hB0
  have hvb1 := hvb.below hB0
  have hvk1 := hvk.below hB0
  obtain ⟨xk, xw, xn, xa, xi, xm, xo, xb, xp⟩ := x
  simp only [Dd.cells] at *
  obtain ⟨A, c, rfl, -, -⟩ := id hvb
  obtain ⟨A', c', rfl, -, -⟩ := id hvk
  rw [List.length_map] at *
  have Hvb := hidd hvb1; have Hvk := hidd hvk1; have HB0 := hidd hB0
  clear hvb hvk hvb1 hvk1 hB0
  go_enter Tryd.func3, Tryd.ntmps3
  go_wp2_with (fail)
  refine (awake_any _ hE1).mono ?_
  rintro e w1 ⟨rfl, hb1⟩
  have hblk1 := (hb1.block w.heap.size (by simp)).trans (heap_alloc_new w _)
  have hlt1 : w.heap.size < w1.heap.size := lt_of_block hblk1
  have c0 : w1.cell? ⟨w.heap.size, 0, none⟩ = some (.int .i64 xk) := by simp [World.cell?, hblk1]
  have c1 : w1.cell? ⟨w.heap.size, 1, none⟩ = some (.int .i64 xw) := by simp [World.cell?, hblk1]
  have c2 : w1.cell? ⟨w.heap.size, 2, none⟩ = some (.int .i64 xn) := by simp [World.cell?, hblk1]
  have c3 : w1.cell? ⟨w.heap.size, 3, none⟩ = some (.int .i64 xa) := by simp [World.cell?, hblk1]
  have c4 : w1.cell? ⟨w.heap.size, 4, none⟩ = some (.bool xi) := by simp [World.cell?, hblk1]
  have c5 : w1.cell? ⟨w.heap.size, 5, none⟩ = some (.int .u8 xm) := by simp [World.cell?, hblk1]
  have c6 : w1.cell? ⟨w.heap.size, 6, none⟩ = some (.int .i64 xo) := by simp [World.cell?, hblk1]
  have c7 : w1.cell? ⟨w.heap.size, 7, none⟩ = some (.slice A (byteCells xb).length c) := by simp [World.cell?, hblk1]
  have c8 : w1.cell? ⟨w.heap.size, 8, none⟩ = some (.slice A' xp.length c') := by simp [World.cell?, hblk1]
  have hE2 := hE1.below hb1
  have h01 : Below w.heap.size w w1 := HB0.out.trans (hb1.mono (by simp))
  have Hvb2 := hidd (Hvb.out.below hb1); have Hvk2 := hidd (Hvk.out.below hb1); have H01 := hidd h01; have Hblk1 := hidd hblk1
  clear hb1 Hvb Hvk HB0 hE1 h01 hblk1
  have e1 : (1200 : Int) < (xb.length : Int) := by omega
  have e1' : (1200 : Int) < ((byteCells xb).length : Int) := by rw [byteCells_length]; exact e1
  go_wp2_with (fail)
  refine bodyPost_ret (v := .bool true) (by simp [results, Tryd.results3, go_sem]) rfl ⟨rfl, ?_⟩
  exact H01.out
set_option maxRecDepth 100000 in
set_option maxHeartbeats 12000000 in
theorem bench_b2 (x : Dd) (vb vk : Value) (s : ByteArray) (w : World) (hE : Env w) (hvb : Sl w vb (byteCells x.body)) (hvk : Sl w vk (x.keeps.map .bool)) (h1 : ¬ 1200 < x.body.length) (h : 2500 < x.keeps.length) :
    Calls Tryd.prog 3 #[.agg (x.cells vb vk), .string s] w fun e w' => e = .returned (.bool true) ∧ Below w.heap.size w w' := by
  have hB0 : Below w.heap.size w (w.alloc (.cells (x.cells vb vk) 25)) := (Below.refl _ _).alloc (Nat.le_refl _) _
  have hE1 := hE.below hB0
  have hvb1 := hvb.below hB0
  have hvk1 := hvk.below hB0
  obtain ⟨xk, xw, xn, xa, xi, xm, xo, xb, xp⟩ := x
  simp only [Dd.cells] at *
  obtain ⟨A, c, rfl, -, -⟩ := id hvb
  obtain ⟨A', c', rfl, -, -⟩ := id hvk
  rw [List.length_map] at *
  have Hvb := hidd hvb1; have Hvk := hidd hvk1; have HB0 := hidd hB0
  clear hvb hvk hvb1 hvk1 hB0
  go_enter Tryd.func3, Tryd.ntmps3
  go_wp2_with (fail)
  refine (awake_any _ hE1).mono ?_
  rintro e w1 ⟨rfl, hb1⟩
  have hblk1 := (hb1.block w.heap.size (by simp)).trans (heap_alloc_new w _)
  have hlt1 : w.heap.size < w1.heap.size := lt_of_block hblk1
  have c0 : w1.cell? ⟨w.heap.size, 0, none⟩ = some (.int .i64 xk) := by simp [World.cell?, hblk1]
  have c1 : w1.cell? ⟨w.heap.size, 1, none⟩ = some (.int .i64 xw) := by simp [World.cell?, hblk1]
  have c2 : w1.cell? ⟨w.heap.size, 2, none⟩ = some (.int .i64 xn) := by simp [World.cell?, hblk1]
  have c3 : w1.cell? ⟨w.heap.size, 3, none⟩ = some (.int .i64 xa) := by simp [World.cell?, hblk1]
  have c4 : w1.cell? ⟨w.heap.size, 4, none⟩ = some (.bool xi) := by simp [World.cell?, hblk1]
  have c5 : w1.cell? ⟨w.heap.size, 5, none⟩ = some (.int .u8 xm) := by simp [World.cell?, hblk1]
  have c6 : w1.cell? ⟨w.heap.size, 6, none⟩ = some (.int .i64 xo) := by simp [World.cell?, hblk1]
  have c7 : w1.cell? ⟨w.heap.size, 7, none⟩ = some (.slice A (byteCells xb).length c) := by simp [World.cell?, hblk1]
  have c8 : w1.cell? ⟨w.heap.size, 8, none⟩ = some (.slice A' xp.length c') := by simp [World.cell?, hblk1]
  have hE2 := hE1.below hb1
  have h01 : Below w.heap.size w w1 := HB0.out.trans (hb1.mono (by simp))
  have Hvb2 := hidd (Hvb.out.below hb1); have Hvk2 := hidd (Hvk.out.below hb1); have H01 := hidd h01; have Hblk1 := hidd hblk1
  clear hb1 Hvb Hvk HB0 hE1 h01 hblk1
  have e1 : ¬ (1200 : Int) < (xb.length : Int) := by omega
  have e1' : ¬ (1200 : Int) < ((byteCells xb).length : Int) := by rw [byteCells_length]; exact e1
  have e2 : (2500 : Int) < (xp.length : Int) := by omega
  go_wp2_with (fail)
  refine bodyPost_ret (v := .bool true) (by simp [results, Tryd.results3, go_sem]) rfl ⟨rfl, ?_⟩
  exact H01.out
set_option maxRecDepth 100000 in
set_option maxHeartbeats 12000000 in
theorem bench_b3 (x : Dd) (vb vk : Value) (s : ByteArray) (w : World) (hE : Env w) (hvb : Sl w vb (byteCells x.body)) (hvk : Sl w vk (x.keeps.map .bool)) (h1 : ¬ 1200 < x.body.length) (h2 : ¬ 2500 < x.keeps.length) (h : 2500 < s.size) :
    Calls Tryd.prog 3 #[.agg (x.cells vb vk), .string s] w fun e w' => e = .returned (.bool true) ∧ Below w.heap.size w w' := by
  have hB0 : Below w.heap.size w (w.alloc (.cells (x.cells vb vk) 25)) := (Below.refl _ _).alloc (Nat.le_refl _) _
  have hE1 := hE.below hB0
  have hvb1 := hvb.below hB0
  have hvk1 := hvk.below hB0
  obtain ⟨xk, xw, xn, xa, xi, xm, xo, xb, xp⟩ := x
  simp only [Dd.cells] at *
  obtain ⟨A, c, rfl, -, -⟩ := id hvb
  obtain ⟨A', c', rfl, -, -⟩ := id hvk
  rw [List.length_map] at *
  have Hvb := hidd hvb1; have Hvk := hidd hvk1; have HB0 := hidd hB0
  clear hvb hvk hvb1 hvk1 hB0
  go_enter Tryd.func3, Tryd.ntmps3
  go_wp2_with (fail)
  refine (awake_any _ hE1).mono ?_
  rintro e w1 ⟨rfl, hb1⟩
  have hblk1 := (hb1.block w.heap.size (by simp)).trans (heap_alloc_new w _)
  have hlt1 : w.heap.size < w1.heap.size := lt_of_block hblk1
  have c0 : w1.cell? ⟨w.heap.size, 0, none⟩ = some (.int .i64 xk) := by simp [World.cell?, hblk1]
  have c1 : w1.cell? ⟨w.heap.size, 1, none⟩ = some (.int .i64 xw) := by simp [World.cell?, hblk1]
  have c2 : w1.cell? ⟨w.heap.size, 2, none⟩ = some (.int .i64 xn) := by simp [World.cell?, hblk1]
  have c3 : w1.cell? ⟨w.heap.size, 3, none⟩ = some (.int .i64 xa) := by simp [World.cell?, hblk1]
  have c4 : w1.cell? ⟨w.heap.size, 4, none⟩ = some (.bool xi) := by simp [World.cell?, hblk1]
  have c5 : w1.cell? ⟨w.heap.size, 5, none⟩ = some (.int .u8 xm) := by simp [World.cell?, hblk1]
  have c6 : w1.cell? ⟨w.heap.size, 6, none⟩ = some (.int .i64 xo) := by simp [World.cell?, hblk1]
  have c7 : w1.cell? ⟨w.heap.size, 7, none⟩ = some (.slice A (byteCells xb).length c) := by simp [World.cell?, hblk1]
  have c8 : w1.cell? ⟨w.heap.size, 8, none⟩ = some (.slice A' xp.length c') := by simp [World.cell?, hblk1]
  have hE2 := hE1.below hb1
  have h01 : Below w.heap.size w w1 := HB0.out.trans (hb1.mono (by simp))
  have Hvb2 := hidd (Hvb.out.below hb1); have Hvk2 := hidd (Hvk.out.below hb1); have H01 := hidd h01; have Hblk1 := hidd hblk1
  clear hb1 Hvb Hvk HB0 hE1 h01 hblk1
  have e1 : ¬ (1200 : Int) < (xb.length : Int) := by omega
  have e1' : ¬ (1200 : Int) < ((byteCells xb).length : Int) := by rw [byteCells_length]; exact e1
  have e2 : ¬ (2500 : Int) < (xp.length : Int) := by omega
  have e3 : (2500 : Int) < (s.size : Int) := by omega
  go_wp2_with (fail)
  refine bodyPost_ret (v := .bool true) (by simp [results, Tryd.results3, go_sem]) rfl ⟨rfl, ?_⟩
  exact H01.out
set_option maxRecDepth 100000 in
set_option maxHeartbeats 12000000 in
theorem bench_main (x : Dd) (vb vk : Value) (s : ByteArray) (w : World) (hE : Env w) (hvb : Sl w vb (byteCells x.body)) (hvk : Sl w vk (x.keeps.map .bool)) (hm : x.mask ≤ 255) (h1 : ¬ 1200 < x.body.length) (h2 : ¬ 2500 < x.keeps.length) (h3 : ¬ 2500 < s.size) :
    Calls Tryd.prog 3 #[.agg (x.cells vb vk), .string s] w fun e w' => e = .returned (.bool true) ∧ Below w.heap.size w w' := by
  have hB0 : Below w.heap.size w (w.alloc (.cells (x.cells vb vk) 25)) := (Below.refl _ _).alloc (Nat.le_refl _) _
  have hE1 := hE.below hB0
  have hvb1 := hvb.below hB0
  have hvk1 := hvk.below hB0
  have Hm := hidd hm
  have Htx : Hid (∀ l, textF x = .ok l → parseF ⟨l.toArray⟩ = .ok x) := hidd (fun l h => parse_text x hm l h)
  clear hm
  obtain ⟨xk, xw, xn, xa, xi, xm, xo, xb, xp⟩ := x
  simp only [Dd.cells] at *
  obtain ⟨A, c, rfl, -, -⟩ := id hvb
  obtain ⟨A', c', rfl, -, -⟩ := id hvk
  rw [List.length_map] at *
  have Hvb := hidd hvb1; have Hvk := hidd hvk1; have HB0 := hidd hB0
  clear hvb hvk hvb1 hvk1 hB0
  go_enter Tryd.func3, Tryd.ntmps3
  go_wp2_with (fail)
  refine (awake_any _ hE1).mono ?_
  rintro e w1 ⟨rfl, hb1⟩
  have hblk1 := (hb1.block w.heap.size (by simp)).trans (heap_alloc_new w _)
  have hlt1 : w.heap.size < w1.heap.size := lt_of_block hblk1
  have c0 : w1.cell? ⟨w.heap.size, 0, none⟩ = some (.int .i64 xk) := by simp [World.cell?, hblk1]
  have c1 : w1.cell? ⟨w.heap.size, 1, none⟩ = some (.int .i64 xw) := by simp [World.cell?, hblk1]
  have c2 : w1.cell? ⟨w.heap.size, 2, none⟩ = some (.int .i64 xn) := by simp [World.cell?, hblk1]
  have c3 : w1.cell? ⟨w.heap.size, 3, none⟩ = some (.int .i64 xa) := by simp [World.cell?, hblk1]
  have c4 : w1.cell? ⟨w.heap.size, 4, none⟩ = some (.bool xi) := by simp [World.cell?, hblk1]
  have c5 : w1.cell? ⟨w.heap.size, 5, none⟩ = some (.int .u8 xm) := by simp [World.cell?, hblk1]
  have c6 : w1.cell? ⟨w.heap.size, 6, none⟩ = some (.int .i64 xo) := by simp [World.cell?, hblk1]
  have c7 : w1.cell? ⟨w.heap.size, 7, none⟩ = some (.slice A (byteCells xb).length c) := by simp [World.cell?, hblk1]
  have c8 : w1.cell? ⟨w.heap.size, 8, none⟩ = some (.slice A' xp.length c') := by simp [World.cell?, hblk1]
  have hE2 := hE1.below hb1
  have h01 : Below w.heap.size w w1 := HB0.out.trans (hb1.mono (by simp))
  have Hvb2 := hidd (Hvb.out.below hb1); have Hvk2 := hidd (Hvk.out.below hb1); have H01 := hidd h01; have Hblk1 := hidd hblk1
  clear hb1 Hvb Hvk HB0 hE1 h01 hblk1
  have e1 : ¬ (1200 : Int) < (xb.length : Int) := by omega
  have e1' : ¬ (1200 : Int) < ((byteCells xb).length : Int) := by rw [byteCells_length]; exact e1
  have e2 : ¬ (2500 : Int) < (xp.length : Int) := by omega
  have e3 : ¬ (2500 : Int) < (s.size : Int) := by omega
  cases hT : textF ⟨xk, xw, xn, xa, xi, xm, xo, xb, xp⟩ with
  | error n =>
    have hn := textF_err hT
    have hn0 : (n == 0) = false := by rcases hn with rfl | rfl <;> rfl
    have HT := hidd hT; clear hT hn
    go_wp2_with (fail)
    refine (text_no _ HT.out _ _ w1 hE2 Hvb2.out Hvk2.out (Nat.le_of_not_lt h1) (Nat.le_of_not_lt h2) Hm.out).mono ?_
    rintro e w2 ⟨rfl, hb2⟩
    have hE3 := hE2.below hb2
    have h02 := H01.out.trans (hb2.mono H01.out.size)
    have H02 := hidd h02
    clear h02 hb2
    cases hP : parseF s with
    | error n =>
      have hn := parseF_err hP
      have hn0 : (n != 0) = true := by rcases hn with rfl | rfl | rfl | rfl <;> rfl
      have HP := hidd hP; clear hP hn
      go_wp2_with (fail)
      refine (parse_no HP.out w2 hE3).mono ?_
      rintro e w4 ⟨rfl, hb4⟩
      simp only [Dd.cells, zeroD]
      go_wp2_with (fail)
      refine bodyPost_ret (v := .bool true) (by simp [results, Tryd.results3, go_sem]) rfl ⟨rfl, ?_⟩
      have h04 := H02.out.trans (hb4.mono H02.out.size)
      exact h04.alloc h04.size _
    | ok y =>
      obtain ⟨ht, hym, hyb, hyk⟩ := text_parse s y hP
      have HP := hidd hP; clear hP
      have Ht := hidd ht; have Hym := hidd hym; have Hyb := hidd hyb; have Hyk := hidd hyk
      clear ht hym hyb hyk
      go_wp2_with (fail)
      refine (parse_yes HP.out w2 hE3).mono ?_
      rintro e w4 ⟨vb', vk', rfl, g1, g2, hb4⟩
      have h04 := H02.out.trans (hb4.mono H02.out.size)
      have hE4 := hE3.below hb4
      have hB4 : Below w4.heap.size w4 (w4.alloc (.cells (y.cells vb' vk') 25)) := (Below.refl _ _).alloc (Nat.le_refl _) _
      have hE5 := hE4.below hB4
      have g1' := g1.below hB4
      have g2' := g2.below hB4
      obtain ⟨B, d, rfl, -, -⟩ := id g1
      obtain ⟨B', d', rfl, -, -⟩ := id g2
      have hty := text_yes y Ht.out _ _ _ hE5 g1' g2' Hyb.out Hyk.out Hym.out
      have h05 : Below w.heap.size w (w4.alloc (.cells (y.cells (.slice B (byteCells y.body).length d) (.slice B' (y.keeps.map Value.bool).length d')) 25)) := h04.alloc h04.size _
      have Hty := hidd hty; have H05 := hidd h05
      clear hty h05 g1 g2 g1' g2' hB4 h04 hb4 hE4 HP Ht Hym Hyb Hyk
      obtain ⟨yk, yw, yn, ya, yi, ym, yo, yb, yp⟩ := y
      simp only [Dd.cells, List.length_map] at *
      go_wp2_with (fail)
      refine Hty.out.mono ?_
      rintro e w5 ⟨rfl, hb5⟩
      have hs : (s.data.toList).toArray = s.data := by simp
      simp only [hs]
      go_wp2_with (fail)
      refine bodyPost_ret (v := .bool true) (by simp [results, Tryd.results3, go_sem]) rfl ⟨rfl, ?_⟩
      exact H05.out.trans (hb5.mono H05.out.size)
  | ok l =>
    have HT := hidd hT; clear hT
    go_wp2_with (fail)
    refine (text_yes _ HT.out _ _ w1 hE2 Hvb2.out Hvk2.out (Nat.le_of_not_lt h1) (Nat.le_of_not_lt h2) Hm.out).mono ?_
    rintro e w2 ⟨rfl, hb2⟩
    have hE3 := hE2.below hb2
    have h02 := H01.out.trans (hb2.mono H01.out.size)
    have hblk2 := (hb2.block w.heap.size hlt1).trans Hblk1.out
    clear c0 c1 c2 c3 c4 c5 c6 c7 c8
    have c0 : w2.cell? ⟨w.heap.size, 0, none⟩ = some (.int .i64 xk) := by simp [World.cell?, hblk2]
    have c1 : w2.cell? ⟨w.heap.size, 1, none⟩ = some (.int .i64 xw) := by simp [World.cell?, hblk2]
    have c2 : w2.cell? ⟨w.heap.size, 2, none⟩ = some (.int .i64 xn) := by simp [World.cell?, hblk2]
    have c3 : w2.cell? ⟨w.heap.size, 3, none⟩ = some (.int .i64 xa) := by simp [World.cell?, hblk2]
    have c4 : w2.cell? ⟨w.heap.size, 4, none⟩ = some (.bool xi) := by simp [World.cell?, hblk2]
    have c5 : w2.cell? ⟨w.heap.size, 5, none⟩ = some (.int .u8 xm) := by simp [World.cell?, hblk2]
    have c6 : w2.cell? ⟨w.heap.size, 6, none⟩ = some (.int .i64 xo) := by simp [World.cell?, hblk2]
    have c7 : w2.cell? ⟨w.heap.size, 7, none⟩ = some (.slice A (byteCells xb).length c) := by simp [World.cell?, hblk2]
    have c8 : w2.cell? ⟨w.heap.size, 8, none⟩ = some (.slice A' xp.length c') := by simp [World.cell?, hblk2]
    have Hvb3 := hidd (Hvb2.out.below hb2); have Hvk3 := hidd (Hvk2.out.below hb2)
    have H02 := hidd h02
    clear h02 hb2 hblk2
    go_wp2_with (fail)
    refine (parses_yes (Htx.out _ HT.out) _ _ w2 hE3 Hvb3.out Hvk3.out (Nat.le_of_not_lt h2)).mono ?_
    rintro e w3 ⟨rfl, hb3⟩
    have hE4' := hE3.below hb3
    have h03 := H02.out.trans (hb3.mono H02.out.size)
    have H03 := hidd h03
    clear h03 hb3
    cases hP : parseF s with
    | error n =>
      have hn := parseF_err hP
      have hn0 : (n != 0) = true := by rcases hn with rfl | rfl | rfl | rfl <;> rfl
      have HP := hidd hP; clear hP hn
      go_wp2_with (fail)
      refine (parse_no HP.out w3 hE4').mono ?_
      rintro e w4 ⟨rfl, hb4⟩
      simp only [Dd.cells, zeroD]
      go_wp2_with (fail)
      refine bodyPost_ret (v := .bool true) (by simp [results, Tryd.results3, go_sem]) rfl ⟨rfl, ?_⟩
      have h04 := H03.out.trans (hb4.mono H03.out.size)
      exact h04.alloc h04.size _
    | ok y =>
      obtain ⟨ht, hym, hyb, hyk⟩ := text_parse s y hP
      have HP := hidd hP; clear hP
      have Ht := hidd ht; have Hym := hidd hym; have Hyb := hidd hyb; have Hyk := hidd hyk
      clear ht hym hyb hyk
      go_wp2_with (fail)
      refine (parse_yes HP.out w3 hE4').mono ?_
      rintro e w4 ⟨vb', vk', rfl, g1, g2, hb4⟩
      have h04 := H03.out.trans (hb4.mono H03.out.size)
      have hE4 := hE4'.below hb4
      have hB4 : Below w4.heap.size w4 (w4.alloc (.cells (y.cells vb' vk') 25)) := (Below.refl _ _).alloc (Nat.le_refl _) _
      have hE5 := hE4.below hB4
      have g1' := g1.below hB4
      have g2' := g2.below hB4
      obtain ⟨B, d, rfl, -, -⟩ := id g1
      obtain ⟨B', d', rfl, -, -⟩ := id g2
      have hty := text_yes y Ht.out _ _ _ hE5 g1' g2' Hyb.out Hyk.out Hym.out
      have h05 : Below w.heap.size w (w4.alloc (.cells (y.cells (.slice B (byteCells y.body).length d) (.slice B' (y.keeps.map Value.bool).length d')) 25)) := h04.alloc h04.size _
      have Hty := hidd hty; have H05 := hidd h05
      clear hty h05 g1 g2 g1' g2' hB4 h04 hb4 hE4 HP Ht Hym Hyb Hyk
      obtain ⟨yk, yw, yn, ya, yi, ym, yo, yb, yp⟩ := y
      simp only [Dd.cells, List.length_map] at *
      go_wp2_with (fail)
      refine Hty.out.mono ?_
      rintro e w5 ⟨rfl, hb5⟩
      have hs : (s.data.toList).toArray = s.data := by simp
      simp only [hs]
      go_wp2_with (fail)
      refine bodyPost_ret (v := .bool true) (by simp [results, Tryd.results3, go_sem]) rfl ⟨rfl, ?_⟩
      exact H05.out.trans (hb5.mono H05.out.size)

theorem bench_any (x : Dd) (vb vk : Value) (s : ByteArray) (w : World) (hE : Env w) (hvb : Sl w vb (byteCells x.body)) (hvk : Sl w vk (x.keeps.map .bool)) (hm : x.mask ≤ 255) :
    Calls Tryd.prog 3 #[.agg (x.cells vb vk), .string s] w fun e w' => e = .returned (.bool true) ∧ Below w.heap.size w w' := by
  by_cases h1 : 1200 < x.body.length
  · exact bench_b1 x vb vk s w hE hvb hvk h1
  by_cases h2 : 2500 < x.keeps.length
  · exact bench_b2 x vb vk s w hE hvb hvk h1 h2
  by_cases h3 : 2500 < s.size
  · exact bench_b3 x vb vk s w hE hvb hvk h1 h2 h3
  exact bench_main x vb vk s w hE hvb hvk hm h1 h2 h3
end Go.Proofs.YtojmimpaecpiaaaDoor
