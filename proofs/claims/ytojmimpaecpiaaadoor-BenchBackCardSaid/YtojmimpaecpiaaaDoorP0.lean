/- What the row's condition and the arguments' readings give the walk. -/
import Derived.Test.YtojmimpaecpiaaaDoorE2
import Derived.Test.YtojmimpaecpiaaaDoorRows
import Derived.ProofKit
import Derived.LaidMore
import Derived.OpenShut
import Derived.Stop.Joined
import Derived.Lib.LaidTab
namespace Go.Proofs.YtojmimpaecpiaaaDoor
open Go.ChangeShapes Go.WideShapes Go.ChangeAt Go.WideMaps Go.WideElems Go.RowKit

theorem Tryd.own : ownKnob Tryd.prog.godebug = none := by kernel_rfl
theorem Tryd.laidOut : laidOutB Tryd.prog = true := by kernel_rfl
theorem gAcc : Tryd.prog.globalNamed "unicode/utf8.acceptRanges" = some 7 := by kernel_rfl
theorem tPow : (Tryd.prog.globals[0]?).map (·.type) = some 94 := by kernel_rfl
theorem tSyn : (Tryd.prog.globals[2]?).map (·.type) = some 62 := by kernel_rfl
theorem tRan : (Tryd.prog.globals[3]?).map (·.type) = some 62 := by kernel_rfl
theorem pow_tab : Rows.laid_internal_strconv_uint64pow10 (H := Unit) = Lib.tabData .u64 Lib.pow10Tab := by kernel_rfl
theorem cells3 : Tryd.prog.cellsOf 3 = 1 := by kernel_rfl
theorem cells4 : Tryd.prog.cellsOf 4 = 1 := by kernel_rfl
theorem cells5 : Tryd.prog.cellsOf 5 = 1 := by kernel_rfl
theorem cells22 : Tryd.prog.cellsOf 22 = 1 := by kernel_rfl
theorem cells23 : Tryd.prog.cellsOf 23 = 1 := by kernel_rfl
theorem cells25 : Tryd.prog.cellsOf 25 = 9 := by kernel_rfl
theorem cells80 : Tryd.prog.cellsOf 80 = 1 := by kernel_rfl
theorem cells94 : Tryd.prog.cellsOf 94 = 20 := by kernel_rfl
theorem globals8 : Tryd.prog.globals.size = 8 := by kernel_rfl

/-- An interface variable that reads as a value in a pointer's box. -/
theorem trod_iface_cell {W : World} {fuel : Nat} {ms : Array (String × TypeId)} (ht : Tryd.prog.underlying 62 = some (.interface ms)) {cs : List Value} {n : String} {d : DataW Unit} {p : List MemPlace}
    (h : DataW.trod (fun _ => ()) Tryd.prog W 0 (fun _ => true) false fuel 62 cs = some (.iface n d, p)) : ∃ tp v, cs = [.iface tp v] := by
  cases fuel with
  | zero => simp [DataW.trod] at h
  | succ m =>
    unfold DataW.trod at h
    rw [ht] at h
    split at h <;> simp_all

theorem of_laid {W : World} (h : laidMetH Tryd.prog Rows.benchBackRow.laid W) (hsh : W.ShapedOpen Tryd.prog) : Env W := by
  rw [MakeChecks.laidMetH_plain _ _ _ (by kernel_rfl)] at h
  obtain ⟨ps, ⟨_, _, _, _, _, _, _, _, _, _, ⟨_, _, _, _, _, _, _, _, _, _, ⟨g2, t2, cs2, f2, p2, q2, hg2, ht2, hv2, hd2, ⟨g3, t3, cs3, f3, p3, q3, hg3, ht3, hv3, hd3, ⟨g4, t4, cs4, f4, p4, q4, hg4, ht4, hv4, hd4, ⟨g5, t5, cs5, f5, p5, q5, hg5, ht5, hv5, hd5, _, _⟩, _⟩, _⟩, _⟩, _⟩, _⟩, _, _⟩ := h
  obtain rfl := Option.some.inj (gPow.symm.trans hg2)
  obtain rfl := Option.some.inj (gRan.symm.trans hg4)
  obtain rfl := Option.some.inj (gSyn.symm.trans hg5)
  obtain rfl := Option.some.inj (tPow.symm.trans ht2)
  obtain rfl := Option.some.inj (tRan.symm.trans ht4)
  obtain rfl := Option.some.inj (tSyn.symm.trans ht5)
  have hz : 8 ≤ W.heap.size := by
    obtain rfl := Option.some.inj (gAcc.symm.trans hg3)
    unfold World.var? at hv3
    rw [gAcc] at hv3
    cases e : W.heap[7]? with
    | none => simp [e] at hv3
    | some o => exact (Array.getElem?_eq_some_iff.1 e).1
  refine ⟨hsh, ?_, ?_, ?_, hz⟩
  · rw [pow_tab] at hd2
    unfold Lib.TabIs
    rw [hv2, ← Lib.cells_of_tab Tryd.underlying94 Tryd.underlying80 cells80 cells94 hd2]
  · obtain ⟨tp, v, e⟩ := trod_iface_cell Tryd.underlying62 hd5
    obtain ⟨l⟩ := cs5
    simp only at e
    subst e
    exact ⟨tp, v, hv5⟩
  · obtain ⟨tp, v, e⟩ := trod_iface_cell Tryd.underlying62 hd4
    obtain ⟨l⟩ := cs4
    simp only at e
    subst e
    exact ⟨tp, v, hv4⟩

theorem u8_range {n : Int} (h : (Lit.int .u8 n).wf = true) : 0 ≤ n ∧ n ≤ 255 := by
  have h' : (decide ((0 : Int) ≤ n) && decide (n ≤ 255)) = true := h
  simpa using h'
/-- A list of bytes that came in. -/
theorem open_bytes {H : Type} {enc : TypeId × Value → H} {W : World} {fuel : Nat} {cs : List Value} {x : DataW H × List MemPlace} (h : DataW.trod enc Tryd.prog W 0 (fun _ => true) true fuel 22 cs = some x) :
    ∃ (v : Value) (l : List UInt8), cs = [v] ∧ Sl W v (byteCells l) := by
  rcases open_ints Tryd.underlying22 Tryd.underlying5 cells5 h with ⟨rfl, _⟩ | ⟨a, len, cap, zs, rfl, _, hl, _, hz, _, hc, hw⟩
  · exact ⟨_, [], rfl, Sl.nil _⟩
  · simp only [if_true] at hz
    refine ⟨_, (zs.take len).map (fun z => UInt8.ofNat z.toNat), rfl, ?_⟩
    have hb : byteCells ((zs.take len).map (fun z => UInt8.ofNat z.toNat)) = (zs.take len).map (Value.int .u8) := by
      simp only [byteCells, List.map_map]
      refine List.map_congr_left fun z hzm => ?_
      have hwf := hw z (List.mem_of_mem_take hzm)
      have hr : 0 ≤ z ∧ z ≤ 255 := u8_range hwf
      simp only [Function.comp_apply]
      rw [UInt8.toNat_ofNat', Nat.mod_eq_of_lt (by omega)]
      congr 1
      omega
    rw [hb]
    refine ⟨some a, cap, by simp [hz, hl], by simp [hz]; omega, fun hne => ?_⟩
    have hpos : 0 < zs.length := by
      rcases Nat.eq_zero_or_pos zs.length with h0 | h0
      · exact absurd (by rw [List.eq_nil_of_length_eq_zero h0]; simp) hne
      · exact h0
    obtain ⟨b, off, rfl, hcell⟩ := ints_at hc hpos
    refine ⟨b, off, rfl, World.block_lt_of_cell? W _ (hcell 0 hpos), fun j hj => ?_⟩
    simp only [List.length_map, List.length_take] at hj
    rw [hcell j (by omega)]
    simp [List.getElem?_eq_getElem (show j < zs.length by omega)]

/-- A list of bools that came in. -/
theorem open_bools {H : Type} {enc : TypeId × Value → H} {W : World} {fuel : Nat} {cs : List Value} {x : DataW H × List MemPlace} (h : DataW.trod enc Tryd.prog W 0 (fun _ => true) true fuel 23 cs = some x) :
    ∃ (v : Value) (l : List Bool), cs = [v] ∧ Sl W v (l.map .bool) := by
  rcases DataW.trod_slice Tryd.underlying23 h with ⟨rfl, _⟩ | ⟨a, len, cap, elems, rest, n, _, rfl, _, _, hl, _, hlen, hel, _⟩
  · exact ⟨_, [], rfl, Sl.nil _⟩
  · have each : ∀ i, i < len → ∃ b, W.cell? (a.add i) = some (.bool b) := by
      intro i hi
      have hE := hel i hi
      rw [cells4, Nat.mul_one, List.getElem?_eq_getElem (by omega)] at hE
      simp only [Option.bind_eq_some_iff] at hE
      obtain ⟨c1, hc1, hy1⟩ := hE
      obtain ⟨b, rfl, _⟩ := DataW.trod_bool Tryd.underlying4 hy1
      refine ⟨b, ?_⟩
      have := (World.cells?_some hc1).2.2 0 (by omega)
      simpa [Addr.add] using this
    let f : Nat → Bool := fun i => match W.cell? (a.add i) with | some (.bool b) => b | _ => false
    have hf : ∀ i, i < len → W.cell? (a.add i) = some (.bool (f i)) := by
      intro i hi
      obtain ⟨b, hb⟩ := each i hi
      simp only [f, hb]
    refine ⟨_, (List.range len).map f, rfl, some a, cap, by simp, by simpa using hl, fun hne => ?_⟩
    have hpos : 0 < len := by
      rcases Nat.eq_zero_or_pos len with h0 | h0
      · exact absurd (by rw [h0]; rfl) hne
      · exact h0
    obtain ⟨b, off, spot⟩ := a
    have hspot : spot = none := by simpa [Addr.add] using World.cell?_spot (hf 0 hpos)
    subst hspot
    refine ⟨b, off, rfl, World.block_lt_of_cell? W _ (hf 0 hpos), fun j hj => ?_⟩
    simp only [List.length_map, List.length_range] at hj
    have := hf j hj
    rw [Go.WideShapes.add_plain] at this
    rw [this]
    simp

set_option maxRecDepth 100000 in
/-- A deed that came in. -/
theorem deed_open {H : Type} {enc : TypeId × Value → H} {W : World} {base : Nat} {v0 : Value} {d0 : DataW H} {p0 : List MemPlace} (hval : Value.okWide Tryd.prog W .any base 25 v0) (h0 : DataW.Trod enc Tryd.prog W 0 (fun _ => true) true 25 v0 d0 p0) :
    ∃ (x : Dd) (vb vk : Value), v0 = .agg (x.cells vb vk) ∧ Sl W vb (byteCells x.body) ∧ Sl W vk (x.keeps.map .bool) ∧ x.mask ≤ 255 := by
  obtain ⟨cs, rfl, hsz⟩ := okWide_struct Tryd.underlying25 hval
  obtain ⟨fuel, h⟩ := h0
  obtain ⟨xs, n, _, _, _, hlen, hf⟩ := DataW.trod_struct Tryd.underlying25 h
  rw [cells25] at hsz
  have hlen' : xs.length = 9 := hlen
  obtain ⟨l⟩ := cs
  have hsz' : l.length = 9 := hsz
  match l, hsz', xs, hlen' with
  | [c0, c1, c2, c3, c4, c5, c6, c7, c8], _, [x0, x1, x2, x3, x4, x5, x6, x7, x8], _ =>
    have f0 := hf 0 _ rfl; have f1 := hf 1 _ rfl; have f2 := hf 2 _ rfl; have f3 := hf 3 _ rfl; have f4 := hf 4 _ rfl
    have f5 := hf 5 _ rfl; have f6 := hf 6 _ rfl; have f7 := hf 7 _ rfl; have f8 := hf 8 _ rfl
    simp only [cells3, cells4, cells5, cells22, cells23, Value.cells, List.drop_zero, List.drop_succ_cons, List.take_succ_cons, List.take_zero, List.getElem?_cons_zero, List.getElem?_cons_succ] at f0 f1 f2 f3 f4 f5 f6 f7 f8
    obtain ⟨k0, e0, _⟩ := DataW.trod_int Tryd.underlying3 f0
    obtain ⟨k1, e1, _⟩ := DataW.trod_int Tryd.underlying3 f1
    obtain ⟨k2, e2, _⟩ := DataW.trod_int Tryd.underlying3 f2
    obtain ⟨k3, e3, _⟩ := DataW.trod_int Tryd.underlying3 f3
    obtain ⟨k4, e4, _⟩ := DataW.trod_bool Tryd.underlying4 f4
    obtain ⟨k5, e5, _, w5⟩ := DataW.trod_int Tryd.underlying5 f5
    obtain ⟨k6, e6, _⟩ := DataW.trod_int Tryd.underlying3 f6
    obtain ⟨vb, lb, e7, s7⟩ := open_bytes f7
    obtain ⟨vk, lk, e8, s8⟩ := open_bools f8
    have hr : 0 ≤ k5 ∧ k5 ≤ 255 := u8_range w5
    cases e0; cases e1; cases e2; cases e3; cases e4; cases e5; cases e6; cases e7; cases e8
    refine ⟨⟨k0, k1, k2, k3, k4, k5.toNat, k6, lb, lk⟩, _, _, ?_, s7, s8, by show k5.toNat ≤ 255; omega⟩
    simp only [Dd.cells]
    rw [show ((k5.toNat : Nat) : Int) = k5 by omega]
end Go.Proofs.YtojmimpaecpiaaaDoor
