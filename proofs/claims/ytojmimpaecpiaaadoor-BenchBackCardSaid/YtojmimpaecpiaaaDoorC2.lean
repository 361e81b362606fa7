/- Parse: the road with words. -/
import Derived.Test.YtojmimpaecpiaaaDoorC1
import Derived.Test.YtojmimpaecpiaaaDoorA9
namespace Go.Proofs.YtojmimpaecpiaaaDoor
open Go.RowKit
/-- The result's block, the words, behind 'words'. -/
structure PS0 (w wx : World) (s : ByteArray) (gw : Nat) : Prop where
  res : wx.heap[w.heap.size]? = some (.cells #[.int .i64 0, .int .i64 0, .int .i64 0, .int .i64 0, .bool false, .int .u8 0, .int .i64 0, .slice none 0 0, .slice none 0 0] 25 (0, 0))
  words : ∀ (j : Nat) (x : ByteArray), (pieces s)[j]? = some x → wx.cell? ⟨gw, j, none⟩ = some (.string x)
  lt : w.heap.size < gw
  sz : gw < wx.heap.size
  below : Below w.heap.size w wx
theorem PS0.belowT {w wx wy : World} {s : ByteArray} {gw : Nat} (h : PS0 w wx s gw) (hb : Below wx.heap.size wx wy) : PS0 w wy s gw :=
  ⟨(hb.block _ (lt_of_block h.res)).trans h.res, fun j x hx => (hb.cell (p := ⟨gw, j, none⟩) h.sz).trans (h.words j x hx), h.lt, Nat.lt_of_lt_of_le h.sz hb.size, h.below.trans (hb.mono h.below.size)⟩
/-- Behind the look-up. -/
def R6 (w wx : World) (s : ByteArray) (gw : Nat) (fc : Array Value) (is : Bool) (s5 s6 : Value) : Prop :=
  ∃ b5, s5 = .pointer (some ⟨b5, 0, none⟩) ∧ s6 = .bool is ∧ PS0 w wx s gw ∧ wx.heap[b5]? = some (.cells fc 36 (0, 0)) ∧ gw < b5
theorem look_none (b : Nat) (s : ByteArray) (w : World) (hb : w.heap[b]? = some (.map formsE 15)) (h : formOf s.data.toList = none) :
    (Instr.lookup 48 (.map (some b)) (.string s) true).run Tryd.prog w = .ok (.tuple #[.agg #[.int .i64 0, .bool false, .string { data := #[] }, .int .u8 0], .bool false]) w := by
  rw [forms_look b s w hb, h]; rfl
theorem look_some (b : Nat) (s : ByteArray) (w : World) (hb : w.heap[b]? = some (.map formsE 15)) {fw ff : List UInt8} {fk : Int} {fi : Bool} {fr : UInt8} (h : formOf s.data.toList = some ⟨fw, fk, fi, ff, fr⟩) :
    (Instr.lookup 48 (.map (some b)) (.string s) true).run Tryd.prog w = .ok (.tuple #[.agg #[.int .i64 fk, .bool fi, .string ⟨ff.toArray⟩, .int .u8 fr.toNat], .bool true]) w := by
  rw [forms_look b s w hb, h]; rfl

/-- What the look-up of the line's first word gives. -/
def Looks (p0 : ByteArray) (fk : Int) (fi : Bool) (ff : List UInt8) (fr : UInt8) (is : Bool) : Prop :=
  (is = false ∧ formOf p0.data.toList = none ∧ fk = 0 ∧ fi = false ∧ ff = [] ∧ fr = 0) ∨ (is = true ∧ ∃ fw, formOf p0.data.toList = some ⟨fw, fk, fi, ff, fr⟩)
theorem Looks.run {p0 : ByteArray} {fk : Int} {fi : Bool} {ff : List UInt8} {fr : UInt8} {is : Bool} (h : Looks p0 fk fi ff fr is) (b : Nat) (w : World) (hb : w.heap[b]? = some (.map formsE 15)) :
    (Instr.lookup 48 (.map (some b)) (.string p0) true).run Tryd.prog w = .ok (.tuple #[.agg #[.int .i64 fk, .bool fi, .string ⟨ff.toArray⟩, .int .u8 fr.toNat], .bool is]) w := by
  rcases h with ⟨rfl, hf, rfl, rfl, rfl, rfl⟩ | ⟨rfl, fw, hf⟩
  · exact look_none b p0 w hb hf
  · exact look_some b p0 w hb hf
theorem r6_one {w w1 : World} {s : ByteArray} {gw : Nat} (h : PS0 w w1 s gw) (fc : Array Value) (is : Bool) : R6 w ((w1.alloc (.map formsE 15)).alloc (.cells fc 36)).drew s gw fc is (.pointer (some ⟨w1.heap.size + 1, 0, none⟩)) (.bool is) := by
  have hb : Below w1.heap.size w1 ((w1.alloc (.map formsE 15)).alloc (.cells fc 36)).drew := (((Below.refl _ _).alloc (Nat.le_refl _) _).alloc (by simp) _).drew
  refine ⟨w1.heap.size + 1, rfl, rfl, h.belowT hb, ?_, by have := h.sz; omega⟩
  have := heap_alloc_new (w1.alloc (.map formsE 15)) (.cells fc 36)
  rw [World.size_alloc] at this
  exact this
theorem r6_two {w w1 : World} {s : ByteArray} {gw : Nat} (h : PS0 w w1 s gw) (fc : Array Value) (is : Bool) : R6 w ((w1.alloc (.cells fc 36)).alloc (.map formsE 15)).drew s gw fc is (.pointer (some ⟨w1.heap.size, 0, none⟩)) (.bool is) := by
  have hb : Below w1.heap.size w1 ((w1.alloc (.cells fc 36)).alloc (.map formsE 15)).drew := (((Below.refl _ _).alloc (Nat.le_refl _) _).alloc (by simp) _).drew
  refine ⟨w1.heap.size, rfl, rfl, h.belowT hb, ?_, h.sz⟩
  exact (Below.heap_alloc (w1.alloc (.cells fc 36)) (.map formsE 15) _ (by simp)).trans (heap_alloc_new w1 _)
/-- The world while a line is read: form, deed, reader. -/
structure PS (w wx : World) (s : ByteArray) (gw b5 b7 g0 : Nat) (fc cs : Array Value) (fz : Nat × Nat) (x : Dd) (ok : Bool) (v : Value) : Prop where
  base : PS0 w wx s gw
  form : wx.heap[b5]? = some (.cells fc 36 (0, 0))
  deed : wx.heap[b7]? = some (.cells (x.cells (.slice none 0 0) (.slice none 0 0)) 25 (0, 0))
  rd : Rd (b7 + 1 + 1) (b7 + 1) wx ok v
  bytes : wx.heap[g0]? = some (.cells cs 5 fz)
  l1 : gw < b5
  l2 : b5 < b7
  nob : x.body = [] ∧ x.keeps = []
theorem PS.belowT {w wx wy : World} {s : ByteArray} {gw b5 b7 g0 : Nat} {fc cs : Array Value} {fz : Nat × Nat} {x : Dd} {ok : Bool} {v : Value} (h : PS w wx s gw b5 b7 g0 fc cs fz x ok v) (hb : Below wx.heap.size wx wy) : PS w wy s gw b5 b7 g0 fc cs fz x ok v :=
  ⟨h.base.belowT hb, (hb.block _ (lt_of_block h.form)).trans h.form, (hb.block _ (lt_of_block h.deed)).trans h.deed, ⟨(hb.block _ (lt_of_block h.rd.k)).trans h.rd.k, (hb.block _ (lt_of_block h.rd.x)).trans h.rd.x⟩, (hb.block _ (lt_of_block h.bytes)).trans h.bytes, h.l1, h.l2, h.nob⟩
/-- The reader's step keeps all else. -/
theorem PS.rdT {w wx wy : World} {s : ByteArray} {gw b5 b7 g0 : Nat} {fc cs : Array Value} {fz : Nat × Nat} {x : Dd} {ok ok' : Bool} {v v' : Value} (h : PS w wx s gw b5 b7 g0 fc cs fz x ok v) (hf : Fr (fun k => k = b7 + 1 + 1 ∨ k = b7 + 1) wx wy) (hr : Rd (b7 + 1 + 1) (b7 + 1) wy ok' v') : PS w wy s gw b5 b7 g0 fc cs fz x ok' v' := by
  have hl1 := h.l1; have hl2 := h.l2; have hl := h.base.lt
  have hg : g0 ≠ b7 + 1 + 1 ∧ g0 ≠ b7 + 1 := by
    constructor
    · rintro rfl; have := h.bytes.symm.trans h.rd.k; injection this with this; injection this with _ ht; cases ht
    · rintro rfl; have := h.bytes.symm.trans h.rd.x; injection this with this; injection this with _ ht; cases ht
  have keep : ∀ k o, wx.heap[k]? = some o → k ≠ b7 + 1 + 1 → k ≠ b7 + 1 → wy.heap[k]? = some o := fun k o hk h1 h2 => (hf.block k (lt_of_block hk) (fun hh => hh.elim h1 h2)).trans hk
  refine ⟨⟨keep _ _ h.base.res (by omega) (by omega), fun j y hy => ?_, h.base.lt, Nat.lt_of_lt_of_le h.base.sz hf.size, ?_⟩, keep _ _ h.form (by omega) (by omega), keep _ _ h.deed (by omega) (by omega), hr, keep _ _ h.bytes hg.1 hg.2, hl1, hl2, h.nob⟩
  · exact (hf.cell (p := ⟨gw, j, none⟩) h.base.sz (by simp; omega)).trans (h.base.words j y hy)
  · exact h.base.below.trans (hf.toBelow h.base.below.size (fun k hk => by omega))
/-- A store into the deed. -/
theorem PS.set {w wx : World} {s : ByteArray} {gw b5 b7 g0 : Nat} {fc cs : Array Value} {fz : Nat × Nat} {x x' : Dd} {ok : Bool} {v : Value} (h : PS w wx s gw b5 b7 g0 fc cs fz x ok v) (j : Nat) (u : Value)
    (hl : (x.cells (.slice none 0 0) (.slice none 0 0)).setIfInBounds j u = x'.cells (.slice none 0 0) (.slice none 0 0)) (hx : x'.body = [] ∧ x'.keeps = []) : PS w (wx.setCell ⟨b7, j, none⟩ u) s gw b5 b7 g0 fc cs fz x' ok v := by
  have hl1 := h.l1; have hl2 := h.l2; have hlt := h.base.lt
  have hg : g0 ≠ b7 := by
    rintro rfl; have := h.bytes.symm.trans h.deed; injection this with this; injection this with _ ht; cases ht
  have keep : ∀ k o, wx.heap[k]? = some o → k ≠ b7 → (wx.setCell ⟨b7, j, none⟩ u).heap[k]? = some o := fun k o hk h1 => (Below.heap_setCell _ _ _ _ h1).trans hk
  refine ⟨⟨keep _ _ h.base.res (by omega), fun i y hy => ?_, h.base.lt, by simpa [World.setCell] using h.base.sz, h.base.below.setCell (by show _ ≤ b7; omega) _⟩, keep _ _ h.form (by omega), ?_, ⟨keep _ _ h.rd.k (by omega), keep _ _ h.rd.x (by omega)⟩, keep _ _ h.bytes hg, hl1, hl2, hx⟩
  · rw [World.cell?_setCell_other _ _ _ _ (fun e => by have e := congrArg Addr.block e; have e : b7 = gw := e; omega)]; exact h.base.words i y hy
  · have := h.deed
    simp only [World.setCell, Array.getElem?_modify, this]
    simp [hl]
/-- At the head of a round: k fields are read. -/
def LP (w wr : World) (s : ByteArray) (gw b5 b7 g0 : Nat) (fc cs : Array Value) (fz : Nat × Nat) (ff : List UInt8) (x0 : Dd) (k : Nat) : Prop :=
  ∃ (ok : Bool) (o : Nat) (L : List ByteArray) (x : Dd), PS w wr s gw b5 b7 g0 fc cs fz x ok (.slice (some ⟨gw, o, none⟩) L.length L.length) ∧ (∀ (j : Nat) (y : ByteArray), L[j]? = some y → wr.cell? ⟨gw, o + j, none⟩ = some (.string y)) ∧ (∀ y ∈ L, y ∈ pieces s) ∧ L.length ≤ (pieces s).length ∧
    (if ok then takeF ff (pieces s).tail x0 = takeF (ff.drop k) L x else takeF ff (pieces s).tail x0 = none)
/-- Behind the reader's step: v is the field's number. -/
def LP2 (w wr : World) (s : ByteArray) (gw b5 b7 g0 : Nat) (fc cs : Array Value) (fz : Nat × Nat) (ff : List UInt8) (x0 : Dd) (k : Nat) (c : UInt8) (v : Int) : Prop :=
  ∃ (ok : Bool) (o : Nat) (L : List ByteArray) (x : Dd), PS w wr s gw b5 b7 g0 fc cs fz x ok (.slice (some ⟨gw, o, none⟩) L.length L.length) ∧ (∀ (j : Nat) (y : ByteArray), L[j]? = some y → wr.cell? ⟨gw, o + j, none⟩ = some (.string y)) ∧ (∀ y ∈ L, y ∈ pieces s) ∧ L.length ≤ (pieces s).length ∧
    (if ok then ∃ n : Nat, v = n ∧ takeF ff (pieces s).tail x0 = (if c = 109 ∧ 255 < n then none else takeF (ff.drop (k + 1)) L (setF c n x)) else takeF ff (pieces s).tail x0 = none)
section
variable {w wr w9 : World} {s : ByteArray} {gw b5 b7 g0 : Nat} {fc cs : Array Value} {fz : Nat × Nat} {ff : List UInt8} {x0 x : Dd} {k o : Nat} {c : UInt8}
theorem drop_at {ff : List UInt8} {k : Nat} {c : UInt8} (hc : ff[k]? = some c) : ff.drop k = c :: ff.drop (k + 1) := by
  obtain ⟨hk, e⟩ := List.getElem?_eq_some_iff.1 hc
  rw [List.drop_eq_getElem_cons hk, e]
theorem setI_lists (c : UInt8) (v : Int) (x : Dd) (h : x.body = [] ∧ x.keeps = []) : (setI c v x).body = [] ∧ (setI c v x).keeps = [] := by
  unfold setI; repeat' split
  all_goals exact h
theorem LP2.of_in {y : ByteArray} {r : List ByteArray} {v : Int} {bb : Bool} (hps : PS w wr s gw b5 b7 g0 fc cs fz x true (.slice (some ⟨gw, o, none⟩) (y :: r).length (y :: r).length))
    (hLc : ∀ (j : Nat) (z : ByteArray), (y :: r)[j]? = some z → wr.cell? ⟨gw, o + j, none⟩ = some (.string z)) (hLm : ∀ z ∈ y :: r, z ∈ pieces s) (hLl : (y :: r).length ≤ (pieces s).length)
    (hif : if true then takeF ff (pieces s).tail x0 = takeF (ff.drop k) (y :: r) x else takeF ff (pieces s).tail x0 = none) (hc : ff[k]? = some c)
    (hbb : bb = (numF y.data.toList).isSome) (hvn : ∀ n, numF y.data.toList = some n → v = n)
    (hRd : Rd (b7 + 1 + 1) (b7 + 1) w9 bb (.slice (some ⟨gw, if r.length + 1 = 1 then o else o + 1, none⟩) r.length (r.length + 1 - 1))) (hFr : Fr (fun k => k = b7 + 1 + 1 ∨ k = b7 + 1) wr w9) :
    LP2 w w9 s gw b5 b7 g0 fc cs fz ff x0 k c v := by
  refine ⟨bb, _, r, x, hps.rdT hFr hRd, fun j z hz => ?_, fun z hz => hLm z (List.mem_cons_of_mem _ hz), by simp at hLl; omega, ?_⟩
  · have hr : r.length + 1 ≠ 1 := by have := (List.getElem?_eq_some_iff.1 hz).1; omega
    rw [if_neg hr]
    have := hLc (j + 1) z (by simpa using hz)
    rw [show o + 1 + j = o + (j + 1) by omega]
    refine (hFr.cell (p := ⟨gw, o + (j + 1), none⟩) hps.base.sz ?_).trans this
    have := hps.l1; have := hps.l2
    simp; omega
  · simp only [if_true] at hif
    rw [drop_at hc] at hif
    cases hn : numF y.data.toList with
    | none =>
      rw [hn] at hbb; subst hbb
      simp only [takeF, hn] at hif
      exact hif
    | some n =>
      rw [hn] at hbb; subst hbb
      refine ⟨n, hvn n hn, ?_⟩
      simp only [takeF, hn] at hif
      exact hif
theorem LP2.of_out {L : List ByteArray} {ok : Bool} (hps : PS w wr s gw b5 b7 g0 fc cs fz x ok (.slice (some ⟨gw, o, none⟩) L.length L.length))
    (hLc : ∀ (j : Nat) (z : ByteArray), L[j]? = some z → wr.cell? ⟨gw, o + j, none⟩ = some (.string z)) (hLm : ∀ z ∈ L, z ∈ pieces s) (hLl : L.length ≤ (pieces s).length)
    (hif : if ok then takeF ff (pieces s).tail x0 = takeF (ff.drop k) L x else takeF ff (pieces s).tail x0 = none) (hc : ff[k]? = some c) (hno : ok = false ∨ L.length = 0)
    (hRd : Rd (b7 + 1 + 1) (b7 + 1) w9 false (.slice (some ⟨gw, o, none⟩) L.length L.length)) (hFr : Fr (fun k => k = b7 + 1 + 1) wr w9) :
    LP2 w w9 s gw b5 b7 g0 fc cs fz ff x0 k c 0 := by
  have hFr2 : Fr (fun k => k = b7 + 1 + 1 ∨ k = b7 + 1) wr w9 := ⟨hFr.os, hFr.tape, hFr.output, hFr.size, fun i hi hs => hFr.block i hi (fun h => hs (.inl h))⟩
  refine ⟨false, o, L, x, hps.rdT hFr2 hRd, fun j z hz => ?_, hLm, hLl, ?_⟩
  · refine (hFr.cell (p := ⟨gw, o + j, none⟩) hps.base.sz ?_).trans (hLc j z hz)
    have := hps.l1; have := hps.l2
    simp; omega
  · show takeF ff (pieces s).tail x0 = none
    cases ok with
    | false => exact hif
    | true =>
      simp only [if_true] at hif
      rcases hno with h | h
      · cases h
      · have : L = [] := List.eq_nil_of_length_eq_zero h
        subst this
        rw [drop_at hc] at hif
        simpa [takeF] using hif
/-- Behind the switch. -/
theorem LP.of_store {v : Int} (h : LP2 w wr s gw b5 b7 g0 fc cs fz ff x0 k c v) (hm : c = 109 → v ≤ 255) (u : Value) (j : Nat)
    (hl : ∀ x : Dd, (x.cells (.slice none 0 0) (.slice none 0 0)).setIfInBounds j u = (setI c v x).cells (.slice none 0 0) (.slice none 0 0)) : LP w (wr.setCell ⟨b7, j, none⟩ u) s gw b5 b7 g0 fc cs fz ff x0 (k + 1) := by
  obtain ⟨ok, o, L, x, hps, hLc, hLm, hLl, hif⟩ := h
  refine ⟨ok, o, L, setI c v x, hps.set j u (hl x) (setI_lists c v x hps.nob), fun i z hz => ?_, hLm, hLl, ?_⟩
  · rw [World.cell?_setCell_other _ _ _ _ (fun e => by have e := congrArg Addr.block e; have e : b7 = gw := e; have := hps.l1; have := hps.l2; omega)]; exact hLc i z hz
  · cases ok with
    | false => exact hif
    | true =>
      obtain ⟨n, rfl, ht⟩ := hif
      show takeF ff (pieces s).tail x0 = _
      rw [ht, setI_nat c n x (by by_cases hc : c = 109; right; have := hm hc; omega; left; exact hc)]
      rw [if_neg (fun hh => by have := hm hh.1; omega)]
theorem LP.of_skip {v : Int} (h : LP2 w wr s gw b5 b7 g0 fc cs fz ff x0 k c v) (h1 : c ≠ 119) (h2 : c ≠ 110) (h3 : c ≠ 97) (h4 : c ≠ 111) (h5 : c ≠ 109) : LP w wr s gw b5 b7 g0 fc cs fz ff x0 (k + 1) := by
  obtain ⟨ok, o, L, x, hps, hLc, hLm, hLl, hif⟩ := h
  refine ⟨ok, o, L, x, hps, hLc, hLm, hLl, ?_⟩
  cases ok with
  | false => exact hif
  | true =>
    obtain ⟨n, rfl, ht⟩ := hif
    show takeF ff (pieces s).tail x0 = _
    rw [ht, if_neg (fun hh => h5 hh.1)]
    simp [setF, h1, h2, h3, h4, h5]
/-- A mask that is too great. -/
theorem LP2.big {v : Int} (h : LP2 w wr s gw b5 b7 g0 fc cs fz ff x0 k 109 v) (hv : 255 < v) : takeF ff (pieces s).tail x0 = none := by
  obtain ⟨ok, o, L, x, hps, hLc, hLm, hLl, hif⟩ := h
  cases ok with
  | false => exact hif
  | true =>
    obtain ⟨n, rfl, ht⟩ := hif
    rw [ht, if_pos ⟨rfl, by omega⟩]
end
theorem slice_one (gw n c : Nat) (hc : c ≤ 9223372036854775807) : ∃ o1, (1 < c → o1 = 1) ∧ ∀ W : World, (Instr.slice 39 (.slice (some ⟨gw, 0, none⟩) (n + 1) c) (some (.int .i64 1)) none none).run Tryd.prog W = .ok (.slice (some ⟨gw, o1, none⟩) n (c - 1)) W := by
  have hs : ∀ W : World, (sizeOf (Tryd.prog.elem 39)).run Tryd.prog W = .ok 1 W := fun _ => by kernel_rfl
  have he : Tryd.prog.underlying 39 = some (.slice (Tryd.prog.elem 39)) := by kernel_rfl
  by_cases h1 : c = 1
  · refine ⟨0, fun h => by omega, fun W => ?_⟩
    rw [run_slice_l W 39 _ _ _ he .i64 1 (by omega) (by omega), hs]
    simp [Result.andThen, sliced, h1]
  · refine ⟨1, fun _ => rfl, fun W => ?_⟩
    rw [run_slice_l W 39 _ _ _ he .i64 1 (by omega) (by omega), hs]
    simp [Result.andThen, sliced, h1, Addr.add]
set_option maxRecDepth 100000 in
set_option maxHeartbeats 12000000 in
theorem parse_main (s p0 : ByteArray) (w : World) (hE : Env w) (h : ¬ 2200 < s.size) (hn : noWords s = false) (hp0 : (pieces s)[0]? = some p0) (fk : Int) (fi : Bool) (ff : List UInt8) (fr : UInt8) (is : Bool) (hf : Looks p0 fk fi ff fr is) (hfl : ff.length ≤ 10) :
    Calls Tryd.prog 7 #[.string s] w (ParsePost w s) := by
  have Hf := hidd hf; clear hf
  have hneg := fun W a n c => Lib.run_eql_slice_nil (P := Tryd.prog) W 39 9 a n c 0 0 Tryd.underlying39
  go_enter Tryd.func7, Tryd.ntmps7
  go_wp2_with (fail)
  have hE1 : Env (w.alloc (.cells #[.int .i64 0, .int .i64 0, .int .i64 0, .int .i64 0, .bool false, .int .u8 0, .int .i64 0, .slice none 0 0, .slice none 0 0] 25)) := hE.below ((Below.refl _ _).alloc (Nat.le_refl _) _)
  refine (words_any s _ hE1 (by omega)).mono ?_
  rintro e w1 ⟨hc, hb⟩
  rcases hc with ⟨hno, _⟩ | ⟨_, gw, hg1, hg2, rfl, hcell⟩
  · rw [hn] at hno; cases hno
  have hpl := pieces_length s
  have hple := pieces_le s
  have hps : PS0 w w1 s gw := ⟨(hb.block w.heap.size (by simp)).trans (heap_alloc_new w _), hcell, by simp at hg1; omega, hg2, ((Below.refl _ _).alloc (Nat.le_refl _) _).trans (hb.mono (by simp))⟩
  have g0 : w1.cell? ⟨gw, 0, none⟩ = some (.string p0) := hcell 0 p0 hp0
  have hn1 : 1 ≤ (pieces s).length := by omega
  generalize hnn : (pieces s).length = n at *
  have Hnn := hidd hnn; have Hps := hidd hps; have Hp0 := hidd hp0
  clear hps hb hcell hg1 hE1 hpl hp0 hnn
  go_upto_region 6 with fail
  go_cut [5, 6] (fun s5 s6 wx => R6 w wx s gw #[.int .i64 fk, .bool fi, .string ⟨ff.toArray⟩, .int .u8 fr.toNat] is s5 s6)
  case first =>
    have hl1 := Hf.out.run w1.heap.size (w1.alloc (.map formsE 15)).drew (heap_alloc_new w1 _)
    have hl2 := Hf.out.run w1.heap.size ((w1.alloc (.map formsE 15)).alloc (.cells #[.int .i64 0, .bool false, .string { data := #[] }, .int .u8 0] 36)).drew ((Below.heap_alloc (w1.alloc (.map formsE 15)) (.cells #[.int .i64 0, .bool false, .string { data := #[] }, .int .u8 0] 36) _ (by simp)).trans (heap_alloc_new w1 _))
    have hl3 := Hf.out.run (w1.heap.size + 1) ((w1.alloc (.cells #[.int .i64 0, .bool false, .string { data := #[] }, .int .u8 0] 36)).alloc (.map formsE 15)).drew (by have := heap_alloc_new (w1.alloc (.cells #[.int .i64 0, .bool false, .string { data := #[] }, .int .u8 0] 36)) (.map formsE 15); rw [World.size_alloc] at this; exact this)
    go_region_with (go_at_call 17; refine (forms_any _).mono ?_; rintro e w2 ⟨rfl, rfl⟩)
    all_goals (go_wp2_with fail; go_meet)
    all_goals first | exact r6_one Hps.out _ _ | exact r6_two Hps.out _ _
  case rest =>
    obtain ⟨b5, rfl, rfl, hp5, hf5, hlt5⟩ := hcut
    have Hp5 := hidd hp5; have Hf5 := hidd hf5; clear hp5 hf5
    cases is with
    | false =>
      have hp : parseF s = .error 6 := by
        rcases Hf.out with ⟨_, hf, _⟩ | ⟨hx, _⟩
        · unfold parseF; rw [if_neg h, if_neg (by rw [hn]; decide)]
          have : (pieces s).headD ByteArray.empty = p0 := by
            have := Hp0.out
            cases hq : pieces s with
            | nil => rw [hq] at this; cases this
            | cons a r => rw [hq] at this; injection this
          rw [this, hf]
        · cases hx
      have Hp := hidd hp; clear hp
      have c0 : wc.cell? ⟨w.heap.size, 0, none⟩ = some (.int .i64 0) := by simp [World.cell?, Hp5.out.res]
      have z0 := free_of_cells Hp5.out.res 0
      have c1 : wc.cell? ⟨w.heap.size, 1, none⟩ = some (.int .i64 0) := by simp [World.cell?, Hp5.out.res]
      have z1 := free_of_cells Hp5.out.res 1
      have c2 : wc.cell? ⟨w.heap.size, 2, none⟩ = some (.int .i64 0) := by simp [World.cell?, Hp5.out.res]
      have z2 := free_of_cells Hp5.out.res 2
      have c3 : wc.cell? ⟨w.heap.size, 3, none⟩ = some (.int .i64 0) := by simp [World.cell?, Hp5.out.res]
      have z3 := free_of_cells Hp5.out.res 3
      have c4 : wc.cell? ⟨w.heap.size, 4, none⟩ = some (.bool false) := by simp [World.cell?, Hp5.out.res]
      have z4 := free_of_cells Hp5.out.res 4
      have c5 : wc.cell? ⟨w.heap.size, 5, none⟩ = some (.int .u8 0) := by simp [World.cell?, Hp5.out.res]
      have z5 := free_of_cells Hp5.out.res 5
      have c6 : wc.cell? ⟨w.heap.size, 6, none⟩ = some (.int .i64 0) := by simp [World.cell?, Hp5.out.res]
      have z6 := free_of_cells Hp5.out.res 6
      have c7 : wc.cell? ⟨w.heap.size, 7, none⟩ = some (.slice none 0 0) := by simp [World.cell?, Hp5.out.res]
      have z7 := free_of_cells Hp5.out.res 7
      have c8 : wc.cell? ⟨w.heap.size, 8, none⟩ = some (.slice none 0 0) := by simp [World.cell?, Hp5.out.res]
      have z8 := free_of_cells Hp5.out.res 8
      go_wp2_with (fail)
      refine bodyPost_ret (v := .tuple #[.agg (zeroD.cells (.slice none 0 0) (.slice none 0 0)), .int .i64 6]) (by simp [results, Tryd.results7, go_sem, zeroD, Dd.cells, c0, c1, c2, c3, c4, c5, c6, c7, c8]) rfl (parsePost_err Hp.out rfl ?_)
      with_reducible (repeat' (first | exact Hp5.out.below | refine Below.drew ?_ | refine Below.setCell ?_ ?_ _ | refine Below.alloc ?_ ?_ _))
      all_goals (first | omega | (simp; omega) | simp)
    | true =>
      have f0 : wc.cell? ⟨b5, 0, none⟩ = some (.int .i64 fk) := by simp [World.cell?, Hf5.out]
      have f1 : wc.cell? ⟨b5, 1, none⟩ = some (.bool fi) := by simp [World.cell?, Hf5.out]
      obtain ⟨m, rfl⟩ : ∃ m, n = m + 1 := ⟨n - 1, by omega⟩
      obtain ⟨o1, ho1, hsl⟩ := slice_one gw m (m + 1) (by omega)
      go_wp2_with (fail)
      refine (reader_any _ _ rfl).mono ?_
      rintro e w7 ⟨rfl, hw7⟩
      have h3 := three_blocks wc (.cells #[.int .i64 fk, .int .i64 0, .int .i64 0, .int .i64 0, .bool fi, .int .u8 0, .int .i64 0, .slice none 0 0, .slice none 0 0] 25) (.cells #[.slice (some ⟨gw, o1, none⟩) m m] 39) (.cells #[.bool true] 4)
      have hbw7 : Below wc.heap.size wc w7 := by rw [← hw7]; exact (((Below.refl _ _).alloc (Nat.le_refl _) _).alloc (by simp) _).alloc (by simp; omega) _
      rw [hw7] at h3
      obtain ⟨hd7, hx7, hk7, hz7⟩ := h3
      have hp7 := Hp5.out.belowT hbw7
      have hf7 := (hbw7.block b5 (lt_of_block Hf5.out)).trans Hf5.out
      have hlt7 := lt_of_block Hf5.out
      have Hd7 := hidd hd7; have Hx7 := hidd hx7; have Hk7 := hidd hk7; have Hz7 := hidd hz7; have Hp7 := hidd hp7; have Hf7 := hidd hf7
      clear hd7 hx7 hk7 hz7 hp7 hf7 hw7 hbw7 f0 f1
      generalize hb7 : wc.heap.size = b7 at *
      have f2 : w7.cell? ⟨b5, 2, none⟩ = some (.string ⟨ff.toArray⟩) := by simp [World.cell?, Hf7.out]
      obtain ⟨cap0, w8, cs, fz, hconv, hb8, hlt8, hcap0, hcs, hcsj⟩ := bytes_of2 ⟨ff.toArray⟩ w7
      have hsz : (⟨ff.toArray⟩ : ByteArray).size = ff.length := by show ff.toArray.size = _; simp
      rw [hsz] at hconv hcap0
      simp only at hcsj
      have Hcsj := hidd hcsj
      clear hcsj
      have hLP : LP w w8 s gw b5 b7 w7.heap.size #[.int .i64 fk, .bool fi, .string ⟨ff.toArray⟩, .int .u8 fr.toNat] cs fz ff { zeroD with kind := fk, is := fi } 0 := by
        have htl : (pieces s).tail.length = m := by rw [List.length_tail, Hnn.out]; rfl
        refine ⟨true, o1, (pieces s).tail, { zeroD with kind := fk, is := fi }, ⟨Hp7.out.belowT hb8, (hb8.block _ (lt_of_block Hf7.out)).trans Hf7.out, (hb8.block _ (lt_of_block Hd7.out)).trans Hd7.out, ⟨(hb8.block _ (lt_of_block Hk7.out)).trans Hk7.out, ?_⟩, hcs, hlt5, hlt7, rfl, rfl⟩, ?_, fun y hy => List.mem_of_mem_tail hy, by rw [List.length_tail]; omega, rfl⟩
        · rw [htl]; exact (hb8.block _ (lt_of_block Hx7.out)).trans Hx7.out
        · intro j y hj
          have hjm : j < m := by rw [← htl]; exact (List.getElem?_eq_some_iff.1 hj).1
          rw [ho1 (by omega)]
          refine (hb8.cell (p := ⟨gw, 1 + j, none⟩) Hp7.out.sz).trans (Hp7.out.words (1 + j) y ?_)
          rw [List.getElem?_tail] at hj
          rw [Nat.add_comm]; exact hj
      have HLP := hidd hLP
      clear hLP hcs
      go_wp2_with (fail)
      generalize w7.heap.size = g0 at *
      clear Hd7 Hx7 Hk7 Hz7 Hp7 Hf7 Hp5 Hf5 hconv hb8 f2
      go_loopg [52] ff.length (fun g i wr => ∃ k : Nat, k ≤ ff.length ∧ g = ff.length - k ∧ i = .int .i64 k ∧ LP w wr s gw b5 b7 g0 #[.int .i64 fk, .bool fi, .string ⟨ff.toArray⟩, .int .u8 fr.toNat] cs fz ff { zeroD with kind := fk, is := fi } k)
      case atStart => exact ⟨0, Nat.zero_le _, rfl, rfl, HLP.out⟩
      case round =>
        obtain ⟨k, hk, rfl, rfl, hL⟩ := hrel
        have HL := hidd hL; clear hL
        by_cases hlt : k < ff.length
        · obtain ⟨c, hc⟩ : ∃ c, ff[k]? = some c := ⟨_, List.getElem?_eq_getElem hlt⟩
          have gc : wr.cell? ⟨g0, k, none⟩ = some (.int .u8 c.toNat) := by
            obtain ⟨ok, o, L, x, hps, _⟩ := HL.out
            have h1 := hps.bytes
            have h2 := Hcsj.out k c (by simpa using hc)
            simp [World.cell?, h1, h2]
          have Hc := hidd hc; clear hc
          go_upto_region 14 with fail
          go_cut [13] (fun s13 wx => ∃ v : Int, s13 = .int .i64 v ∧ LP2 w wx s gw b5 b7 g0 #[.int .i64 fk, .bool fi, .string ⟨ff.toArray⟩, .int .u8 fr.toNat] cs fz ff { zeroD with kind := fk, is := fi } k c v)
          case first =>
            obtain ⟨ok, o, L, x, hps, hLc, hLm, hLl, hif⟩ := HL.out
            rw [Hnn.out] at hLl
            have Hps := hidd hps; have HLc := hidd hLc; have HLm := hidd hLm; have Hif := hidd hif
            clear hps hLc hLm hif
            by_cases hok : ok = true ∧ L ≠ []
            · obtain ⟨rfl, hne⟩ := hok
              obtain ⟨y, r, rfl⟩ := List.exists_cons_of_ne_nil hne
              have hEr : Env wr := hE.below Hps.out.base.below
              have hys : y.size ≤ 2500 := by have := pieces_size s y (HLm.out y List.mem_cons_self); omega
              have hlr : (y :: r).length ≤ 2600 := by omega
              have hyc := HLc.out 0 y rfl
              simp only [List.length_cons] at hlr
              go_wp2_with (fail)
              refine (next_in (b7 + 1 + 1) (b7 + 1) gw o r.length (r.length + 1) y wr hEr hys Hps.out.rd (Nat.le_refl _) Hps.out.base.sz (by have := Hps.out.l1; have := Hps.out.l2; omega) (by have := Hps.out.l1; have := Hps.out.l2; omega) (by have := hE.size; have := Hps.out.base.lt; have := Hps.out.l1; have := Hps.out.l2; omega) (by have := hE.size; have := Hps.out.base.lt; have := Hps.out.l1; have := Hps.out.l2; omega) (by simpa using hyc) (by omega)).mono ?_
              rintro e w9 ⟨v, bb, rfl, hbb, hvn, hRd, hFr⟩
              go_wp2_with (fail)
              go_meet
              exact ⟨v, rfl, LP2.of_in Hps.out HLc.out HLm.out (by rw [Hnn.out]; exact hLl) Hif.out Hc.out hbb hvn hRd hFr⟩
            · have hno : ok = false ∨ L.length = 0 := by
                cases ok with
                | false => exact .inl rfl
                | true => right; cases L with
                  | nil => rfl
                  | cons a l => exact absurd ⟨rfl, by simp⟩ hok
              go_wp2_with (fail)
              refine (next_out (b7 + 1 + 1) (b7 + 1) wr ok (some ⟨gw, o, none⟩) L.length L.length Hps.out.rd hno).mono ?_
              rintro e w9 ⟨rfl, hRd, hFr⟩
              go_wp2_with (fail)
              go_meet
              exact ⟨0, rfl, LP2.of_out Hps.out HLc.out HLm.out (by rw [Hnn.out]; exact hLl) Hif.out Hc.out hno hRd hFr⟩
          case rest =>
            obtain ⟨v, rfl, hL2⟩ := hcut
            have HL2 := hidd hL2; clear hL2 HL gc
            by_cases h119 : c = 119
            · subst h119
              obtain ⟨v0, q1⟩ : ∃ v, wc.cell? ⟨b7, 1, none⟩ = some v := by obtain ⟨ok, o, L, x, hps, _⟩ := HL2.out; have h := hps.deed; exact ⟨_, by simp [World.cell?, h, Dd.cells]; rfl⟩
              have q2 : wc.frozen? ⟨b7, 1, none⟩ = false := by obtain ⟨ok, o, L, x, hps, _⟩ := HL2.out; exact free_of_cells hps.deed 1
              have hout := LP.of_store HL2.out (fun h => absurd h (by decide)) (.int .i64 v) 1 (fun x => by simp [setI, Dd.cells])
              have Hout := hidd hout; clear hout
              go_wp2_with (fail)
              go_roundg (ff.length - (k + 1))
              case measure => omega
              case rel => exact ⟨k + 1, by omega, rfl, by go_num, Hout.out⟩
            · have i119 : ((c.toNat : Int) == 119) = false := beq_eq_false_iff_ne.2 (fun h => h119 (UInt8.toNat_inj.1 (Int.ofNat_inj.1 h)))
              by_cases h110 : c = 110
              · subst h110
                obtain ⟨v0, q1⟩ : ∃ v, wc.cell? ⟨b7, 2, none⟩ = some v := by obtain ⟨ok, o, L, x, hps, _⟩ := HL2.out; have h := hps.deed; exact ⟨_, by simp [World.cell?, h, Dd.cells]; rfl⟩
                have q2 : wc.frozen? ⟨b7, 2, none⟩ = false := by obtain ⟨ok, o, L, x, hps, _⟩ := HL2.out; exact free_of_cells hps.deed 2
                have hout := LP.of_store HL2.out (fun h => absurd h (by decide)) (.int .i64 v) 2 (fun x => by simp [setI, Dd.cells])
                have Hout := hidd hout; clear hout
                go_wp2_with (fail)
                go_roundg (ff.length - (k + 1))
                case measure => omega
                case rel => exact ⟨k + 1, by omega, rfl, by go_num, Hout.out⟩
              · have i110 : ((c.toNat : Int) == 110) = false := beq_eq_false_iff_ne.2 (fun h => h110 (UInt8.toNat_inj.1 (Int.ofNat_inj.1 h)))
                by_cases h97 : c = 97
                · subst h97
                  obtain ⟨v0, q1⟩ : ∃ v, wc.cell? ⟨b7, 3, none⟩ = some v := by obtain ⟨ok, o, L, x, hps, _⟩ := HL2.out; have h := hps.deed; exact ⟨_, by simp [World.cell?, h, Dd.cells]; rfl⟩
                  have q2 : wc.frozen? ⟨b7, 3, none⟩ = false := by obtain ⟨ok, o, L, x, hps, _⟩ := HL2.out; exact free_of_cells hps.deed 3
                  have hout := LP.of_store HL2.out (fun h => absurd h (by decide)) (.int .i64 v) 3 (fun x => by simp [setI, Dd.cells])
                  have Hout := hidd hout; clear hout
                  go_wp2_with (fail)
                  go_roundg (ff.length - (k + 1))
                  case measure => omega
                  case rel => exact ⟨k + 1, by omega, rfl, by go_num, Hout.out⟩
                · have i97 : ((c.toNat : Int) == 97) = false := beq_eq_false_iff_ne.2 (fun h => h97 (UInt8.toNat_inj.1 (Int.ofNat_inj.1 h)))
                  by_cases h111 : c = 111
                  · subst h111
                    obtain ⟨v0, q1⟩ : ∃ v, wc.cell? ⟨b7, 6, none⟩ = some v := by obtain ⟨ok, o, L, x, hps, _⟩ := HL2.out; have h := hps.deed; exact ⟨_, by simp [World.cell?, h, Dd.cells]; rfl⟩
                    have q2 : wc.frozen? ⟨b7, 6, none⟩ = false := by obtain ⟨ok, o, L, x, hps, _⟩ := HL2.out; exact free_of_cells hps.deed 6
                    have hout := LP.of_store HL2.out (fun h => absurd h (by decide)) (.int .i64 v) 6 (fun x => by simp [setI, Dd.cells])
                    have Hout := hidd hout; clear hout
                    go_wp2_with (fail)
                    go_roundg (ff.length - (k + 1))
                    case measure => omega
                    case rel => exact ⟨k + 1, by omega, rfl, by go_num, Hout.out⟩
                  · have i111 : ((c.toNat : Int) == 111) = false := beq_eq_false_iff_ne.2 (fun h => h111 (UInt8.toNat_inj.1 (Int.ofNat_inj.1 h)))
                    by_cases h109 : c = 109
                    · subst h109
                      by_cases hbig : 255 < v
                      · have hp : parseF s = .error 2 := by
                          rcases Hf.out with ⟨hx, _⟩ | ⟨_, fw, hf⟩
                          · cases hx
                          · rw [parse_at h hn Hp0.out hf, HL2.out.big hbig]
                        have Hp := hidd hp; clear hp
                        have hp5 : PS0 w wc s gw := by obtain ⟨ok, o, L, x, hps, _⟩ := HL2.out; exact hps.base
                        have c0 : wc.cell? ⟨w.heap.size, 0, none⟩ = some (.int .i64 0) := by simp [World.cell?, hp5.res]
                        have z0 := free_of_cells hp5.res 0
                        have c1 : wc.cell? ⟨w.heap.size, 1, none⟩ = some (.int .i64 0) := by simp [World.cell?, hp5.res]
                        have z1 := free_of_cells hp5.res 1
                        have c2 : wc.cell? ⟨w.heap.size, 2, none⟩ = some (.int .i64 0) := by simp [World.cell?, hp5.res]
                        have z2 := free_of_cells hp5.res 2
                        have c3 : wc.cell? ⟨w.heap.size, 3, none⟩ = some (.int .i64 0) := by simp [World.cell?, hp5.res]
                        have z3 := free_of_cells hp5.res 3
                        have c4 : wc.cell? ⟨w.heap.size, 4, none⟩ = some (.bool false) := by simp [World.cell?, hp5.res]
                        have z4 := free_of_cells hp5.res 4
                        have c5 : wc.cell? ⟨w.heap.size, 5, none⟩ = some (.int .u8 0) := by simp [World.cell?, hp5.res]
                        have z5 := free_of_cells hp5.res 5
                        have c6 : wc.cell? ⟨w.heap.size, 6, none⟩ = some (.int .i64 0) := by simp [World.cell?, hp5.res]
                        have z6 := free_of_cells hp5.res 6
                        have c7 : wc.cell? ⟨w.heap.size, 7, none⟩ = some (.slice none 0 0) := by simp [World.cell?, hp5.res]
                        have z7 := free_of_cells hp5.res 7
                        have c8 : wc.cell? ⟨w.heap.size, 8, none⟩ = some (.slice none 0 0) := by simp [World.cell?, hp5.res]
                        have z8 := free_of_cells hp5.res 8
                        have Hp5 := hidd hp5; clear hp5
                        go_wp2_with (fail)
                        refine bodyPost_ret (v := .tuple #[.agg (zeroD.cells (.slice none 0 0) (.slice none 0 0)), .int .i64 2]) (by simp [results, Tryd.results7, go_sem, zeroD, Dd.cells, c0, c1, c2, c3, c4, c5, c6, c7, c8]) rfl (parsePost_err Hp.out rfl ?_)
                        with_reducible (repeat' (first | exact Hp5.out.below | refine Below.drew ?_ | refine Below.setCell ?_ ?_ _ | refine Below.alloc ?_ ?_ _))
                        all_goals (first | omega | (simp; omega) | simp)
                      · have hle : v ≤ 255 := by omega
                        obtain ⟨v0, q1⟩ : ∃ v, wc.cell? ⟨b7, 5, none⟩ = some v := by obtain ⟨ok, o, L, x, hps, _⟩ := HL2.out; have h := hps.deed; exact ⟨_, by simp [World.cell?, h, Dd.cells]; rfl⟩
                        have q2 : wc.frozen? ⟨b7, 5, none⟩ = false := by obtain ⟨ok, o, L, x, hps, _⟩ := HL2.out; exact free_of_cells hps.deed 5
                        have hout := LP.of_store HL2.out (fun _ => hle) (.int .u8 (v % 256)) 5 (fun x => by simp [setI, Dd.cells]; omega)
                        have Hout := hidd hout; clear hout
                        go_wp2_with (fail)
                        go_roundg (ff.length - (k + 1))
                        case measure => omega
                        case rel => exact ⟨k + 1, by omega, rfl, by go_num, Hout.out⟩
                    · have i109 : ((c.toNat : Int) == 109) = false := beq_eq_false_iff_ne.2 (fun h => h109 (UInt8.toNat_inj.1 (Int.ofNat_inj.1 h)))
                      have hout := LP.of_skip HL2.out h119 h110 h97 h111 h109
                      have Hout := hidd hout; clear hout
                      go_wp2_with (fail)
                      go_roundg (ff.length - (k + 1))
                      case measure => omega
                      case rel => exact ⟨k + 1, by omega, rfl, by go_num, Hout.out⟩
        · obtain rfl : k = ff.length := by omega
          obtain ⟨ok, o, L, x, hps, hLc, hLm, hLl, hif⟩ := HL.out
          rw [Hnn.out] at hLl
          rw [List.drop_length] at hif
          have Hps := hidd hps; have HLc := hidd hLc; have HLm := hidd hLm; have Hif := hidd hif
          have hbl := hps.base.below
          have Hbl := hidd hbl
          have hr1 := cell_of_one hps.rd.x
          have hr2 := cell_of_one hps.rd.k
          have c0 : wr.cell? ⟨w.heap.size, 0, none⟩ = some (.int .i64 0) := by simp [World.cell?, hps.base.res]
          have z0 := free_of_cells hps.base.res 0
          have c1 : wr.cell? ⟨w.heap.size, 1, none⟩ = some (.int .i64 0) := by simp [World.cell?, hps.base.res]
          have z1 := free_of_cells hps.base.res 1
          have c2 : wr.cell? ⟨w.heap.size, 2, none⟩ = some (.int .i64 0) := by simp [World.cell?, hps.base.res]
          have z2 := free_of_cells hps.base.res 2
          have c3 : wr.cell? ⟨w.heap.size, 3, none⟩ = some (.int .i64 0) := by simp [World.cell?, hps.base.res]
          have z3 := free_of_cells hps.base.res 3
          have c4 : wr.cell? ⟨w.heap.size, 4, none⟩ = some (.bool false) := by simp [World.cell?, hps.base.res]
          have z4 := free_of_cells hps.base.res 4
          have c5 : wr.cell? ⟨w.heap.size, 5, none⟩ = some (.int .u8 0) := by simp [World.cell?, hps.base.res]
          have z5 := free_of_cells hps.base.res 5
          have c6 : wr.cell? ⟨w.heap.size, 6, none⟩ = some (.int .i64 0) := by simp [World.cell?, hps.base.res]
          have z6 := free_of_cells hps.base.res 6
          have c7 : wr.cell? ⟨w.heap.size, 7, none⟩ = some (.slice none 0 0) := by simp [World.cell?, hps.base.res]
          have z7 := free_of_cells hps.base.res 7
          have c8 : wr.cell? ⟨w.heap.size, 8, none⟩ = some (.slice none 0 0) := by simp [World.cell?, hps.base.res]
          have z8 := free_of_cells hps.base.res 8

          have f3 : wr.cell? ⟨b5, 3, none⟩ = some (.int .u8 fr.toNat) := by have h := hps.form; simp [World.cell?, h]
          clear hps hLc hLm hif HL hbl HLP Hcsj
          go_wp2_with (fail)
          refine (r2_any (b7 + 1) _ wr hr1).mono ?_
          rintro e w' ⟨rfl, rfl⟩
          go_wp2_with (fail)
          refine (r3_any (b7 + 1 + 1) _ wr hr2).mono ?_
          rintro e w' ⟨rfl, rfl⟩
          have hpa : ∀ {z : Option (Dd × List ByteArray)}, takeF ff (pieces s).tail { zeroD with kind := fk, is := fi } = z → parseF s = match z with
              | none => .error 2
              | some (x, l) => match endF fr x l with
                | none => .error 2
                | some y => .ok y := fun {z} hz => by
            rcases Hf.out with ⟨hx, _⟩ | ⟨_, fw, hf⟩
            · cases hx
            · rw [parse_at h hn Hp0.out hf, hz]; rfl
          cases ok with
          | false =>
            have Hp := hidd (hpa Hif.out)
            clear hpa
            go_wp2_with (fail)
            refine bodyPost_ret (v := .tuple #[.agg (zeroD.cells (.slice none 0 0) (.slice none 0 0)), .int .i64 2]) (by simp [results, Tryd.results7, go_sem, zeroD, Dd.cells, c0, c1, c2, c3, c4, c5, c6, c7, c8]) rfl (parsePost_err Hp.out rfl ?_)
            with_reducible (repeat' (first | exact Hbl.out | refine Below.drew ?_ | refine Below.setCell ?_ ?_ _ | refine Below.alloc ?_ ?_ _))
            all_goals (first | omega | (simp; omega) | simp)

          | true =>
            have hif2 : takeF ff (pieces s).tail { zeroD with kind := fk, is := fi } = some (x, L) := Hif.out
            have hpb := hpa hif2
            have Hpb := hidd hpb
            clear hpa hif2 hpb Hif
            by_cases h2 : 2 ≤ L.length
            · have hp : parseF s = .error 2 := by
                rw [Hpb.out]
                obtain ⟨a, b, r, rfl⟩ : ∃ a b r, L = a :: b :: r := by
                  match L, h2 with
                  | a :: b :: r, _ => exact ⟨a, b, r, rfl⟩
                rfl
              have Hp := hidd hp; clear hp
              have e2 : ¬ ((L.length : Int) ≤ 1) := by omega
              go_wp2_with (fail)
              refine bodyPost_ret (v := .tuple #[.agg (zeroD.cells (.slice none 0 0) (.slice none 0 0)), .int .i64 2]) (by simp [results, Tryd.results7, go_sem, zeroD, Dd.cells, c0, c1, c2, c3, c4, c5, c6, c7, c8]) rfl (parsePost_err Hp.out rfl ?_)
              with_reducible (repeat' (first | exact Hbl.out | refine Below.drew ?_ | refine Below.setCell ?_ ?_ _ | refine Below.alloc ?_ ?_ _))
              all_goals (first | omega | (simp; omega) | simp)

            · have e2 : (L.length : Int) ≤ 1 := by omega
              by_cases h0 : L = []
              · subst h0
                have hp : parseF s = .ok x := by rw [Hpb.out]; rfl
                obtain ⟨xk, xw, xn, xa, xi, xm, xo, xb, xp⟩ := x
                obtain ⟨hxb, hxp⟩ := Hps.out.nob
                simp only at hxb hxp
                subst hxb; subst hxp
                have Hp := hidd hp; clear hp
                have hlt7' : w.heap.size < b7 := by have := Hps.out.base.lt; have := Hps.out.l1; have := Hps.out.l2; omega
                have hb7w : b7 < wr.heap.size := lt_of_block Hps.out.deed
                have d0 : wr.cell? ⟨b7, 0, none⟩ = some (.int .i64 xk) := by have h := Hps.out.deed; simp [World.cell?, h, Dd.cells]
                have d1 : wr.cell? ⟨b7, 1, none⟩ = some (.int .i64 xw) := by have h := Hps.out.deed; simp [World.cell?, h, Dd.cells]
                have d2 : wr.cell? ⟨b7, 2, none⟩ = some (.int .i64 xn) := by have h := Hps.out.deed; simp [World.cell?, h, Dd.cells]
                have d3 : wr.cell? ⟨b7, 3, none⟩ = some (.int .i64 xa) := by have h := Hps.out.deed; simp [World.cell?, h, Dd.cells]
                have d4 : wr.cell? ⟨b7, 4, none⟩ = some (.bool xi) := by have h := Hps.out.deed; simp [World.cell?, h, Dd.cells]
                have d5 : wr.cell? ⟨b7, 5, none⟩ = some (.int .u8 xm) := by have h := Hps.out.deed; simp [World.cell?, h, Dd.cells]
                have d6 : wr.cell? ⟨b7, 6, none⟩ = some (.int .i64 xo) := by have h := Hps.out.deed; simp [World.cell?, h, Dd.cells]
                have d7 : wr.cell? ⟨b7, 7, none⟩ = some (.slice none 0 0) := by have h := Hps.out.deed; simp [World.cell?, h, Dd.cells]
                have d8 : wr.cell? ⟨b7, 8, none⟩ = some (.slice none 0 0) := by have h := Hps.out.deed; simp [World.cell?, h, Dd.cells]
                simp only [List.length_nil] at *
                go_wp2_with (fail)
                refine bodyPost_ret (v := .tuple #[.agg (Dd.cells ⟨xk, xw, xn, xa, xi, xm, xo, [], []⟩ (.slice none 0 0) (.slice none 0 0)), .int .i64 0]) (by simp [results, Tryd.results7, go_sem, Dd.cells, c0, c1, c2, c3, c4, c5, c6, c7, c8]) rfl (parsePost_ok Hp.out _ _ rfl (Sl.nil _) (Sl.nil _) ?_)
                with_reducible (repeat' (first | exact Hbl.out | refine Below.drew ?_ | refine Below.setCell ?_ ?_ _ | refine Below.alloc ?_ ?_ _))
                all_goals (first | omega | (simp; omega) | simp)
              · obtain ⟨r, rfl⟩ : ∃ r, L = [r] := by
                  match L, h0, h2 with
                  | [r], _, _ => exact ⟨r, rfl⟩
                  | a :: b :: r, _, h => exact absurd (by simp) h
                have hrs : r.size ≤ 2500 := by have := pieces_size s r (HLm.out r List.mem_cons_self); omega
                have g1 : wr.cell? ⟨gw, o, none⟩ = some (.string r) := HLc.out 0 r rfl
                obtain ⟨xk, xw, xn, xa, xi, xm, xo, xb, xp⟩ := x
                obtain ⟨hxb, hxp⟩ := Hps.out.nob
                simp only at hxb hxp
                subst hxb; subst hxp
                have hlt7' : w.heap.size < b7 := by have := Hps.out.base.lt; have := Hps.out.l1; have := Hps.out.l2; omega
                have hb7w : b7 < wr.heap.size := lt_of_block Hps.out.deed
                simp only [List.length_cons, List.length_nil] at *
                by_cases h98 : fr = 98
                · subst h98
                  go_wp2_with (fail)
                  refine (digits_any r wr hrs).mono ?_
                  rintro e w9 ⟨v, bb, rfl, hbb, hsl, ⟨A, nA, cA, rfl, hA⟩, hb9⟩
                  have hps9 := Hps.out.belowT hb9
                  have Hps9 := hidd hps9
                  clear c0 z0 c1 z1 c2 z2 c3 z3 c4 z4 c5 z5 c6 z6 c7 z7 c8 z8
                  have hbl9 := hps9.base.below
                  have c0 : w9.cell? ⟨w.heap.size, 0, none⟩ = some (.int .i64 0) := by have h := Hps9.out.base.res; simp [World.cell?, h]
                  have z0 := free_of_cells (Hps9.out.base.res) 0
                  have c1 : w9.cell? ⟨w.heap.size, 1, none⟩ = some (.int .i64 0) := by have h := Hps9.out.base.res; simp [World.cell?, h]
                  have z1 := free_of_cells (Hps9.out.base.res) 1
                  have c2 : w9.cell? ⟨w.heap.size, 2, none⟩ = some (.int .i64 0) := by have h := Hps9.out.base.res; simp [World.cell?, h]
                  have z2 := free_of_cells (Hps9.out.base.res) 2
                  have c3 : w9.cell? ⟨w.heap.size, 3, none⟩ = some (.int .i64 0) := by have h := Hps9.out.base.res; simp [World.cell?, h]
                  have z3 := free_of_cells (Hps9.out.base.res) 3
                  have c4 : w9.cell? ⟨w.heap.size, 4, none⟩ = some (.bool false) := by have h := Hps9.out.base.res; simp [World.cell?, h]
                  have z4 := free_of_cells (Hps9.out.base.res) 4
                  have c5 : w9.cell? ⟨w.heap.size, 5, none⟩ = some (.int .u8 0) := by have h := Hps9.out.base.res; simp [World.cell?, h]
                  have z5 := free_of_cells (Hps9.out.base.res) 5
                  have c6 : w9.cell? ⟨w.heap.size, 6, none⟩ = some (.int .i64 0) := by have h := Hps9.out.base.res; simp [World.cell?, h]
                  have z6 := free_of_cells (Hps9.out.base.res) 6
                  have c7 : w9.cell? ⟨w.heap.size, 7, none⟩ = some (.slice none 0 0) := by have h := Hps9.out.base.res; simp [World.cell?, h]
                  have z7 := free_of_cells (Hps9.out.base.res) 7
                  have c8 : w9.cell? ⟨w.heap.size, 8, none⟩ = some (.slice none 0 0) := by have h := Hps9.out.base.res; simp [World.cell?, h]
                  have z8 := free_of_cells (Hps9.out.base.res) 8
                  have d0 : w9.cell? ⟨b7, 0, none⟩ = some (.int .i64 xk) := by have h := Hps9.out.deed; simp [World.cell?, h, Dd.cells]
                  have d1 : w9.cell? ⟨b7, 1, none⟩ = some (.int .i64 xw) := by have h := Hps9.out.deed; simp [World.cell?, h, Dd.cells]
                  have d2 : w9.cell? ⟨b7, 2, none⟩ = some (.int .i64 xn) := by have h := Hps9.out.deed; simp [World.cell?, h, Dd.cells]
                  have d3 : w9.cell? ⟨b7, 3, none⟩ = some (.int .i64 xa) := by have h := Hps9.out.deed; simp [World.cell?, h, Dd.cells]
                  have d4 : w9.cell? ⟨b7, 4, none⟩ = some (.bool xi) := by have h := Hps9.out.deed; simp [World.cell?, h, Dd.cells]
                  have d5 : w9.cell? ⟨b7, 5, none⟩ = some (.int .u8 xm) := by have h := Hps9.out.deed; simp [World.cell?, h, Dd.cells]
                  have d6 : w9.cell? ⟨b7, 6, none⟩ = some (.int .i64 xo) := by have h := Hps9.out.deed; simp [World.cell?, h, Dd.cells]
                  have d7 : w9.cell? ⟨b7, 7, none⟩ = some (.slice none 0 0) := by have h := Hps9.out.deed; simp [World.cell?, h, Dd.cells]
                  have d8 : w9.cell? ⟨b7, 8, none⟩ = some (.slice none 0 0) := by have h := Hps9.out.deed; simp [World.cell?, h, Dd.cells]
                  have y7 := free_of_cells (Hps9.out.deed) 7
                  have Hsl := hidd hsl; have HA := hidd hA
                  clear hps9 hsl hA hr1 hr2 f3 g1 hb9
                  cases bb with
                  | false =>
                    have hp : parseF s = .error 2 := by rw [Hpb.out]; simp [endF, ← hbb]
                    have Hp := hidd hp; clear hp hbb
                    go_wp2_with (fail)
                    refine bodyPost_ret (v := .tuple #[.agg (zeroD.cells (.slice none 0 0) (.slice none 0 0)), .int .i64 2]) (by simp [results, Tryd.results7, go_sem, zeroD, Dd.cells, c0, c1, c2, c3, c4, c5, c6, c7, c8]) rfl (parsePost_err Hp.out rfl ?_)
                    with_reducible (repeat' (first | exact hbl9 | refine Below.drew ?_ | refine Below.setCell ?_ ?_ _ | refine Below.alloc ?_ ?_ _))
                    all_goals (first | omega | (simp; omega) | simp)
                  | true =>
                    have hp : parseF s = .ok ⟨xk, xw, xn, xa, xi, xm, xo, hexPairs r.data.toList, []⟩ := by rw [Hpb.out]; simp [endF, ← hbb]
                    have Hp := hidd hp; clear hp hbb
                    have hslF : ∀ (j : Nat) (u : Value), True := fun _ _ => trivial
                    clear hslF
                    go_wp2_with (fail)
                    refine bodyPost_ret (v := .tuple #[.agg (Dd.cells ⟨xk, xw, xn, xa, xi, xm, xo, hexPairs r.data.toList, []⟩ (.slice A nA cA) (.slice none 0 0)), .int .i64 0]) (by simp [results, Tryd.results7, go_sem, Dd.cells, c0, c1, c2, c3, c4, c5, c6, c7, c8]) rfl (parsePost_ok Hp.out _ _ rfl ?_ ?_ ?_)
                    · with_reducible (repeat' (first | refine Sl.set_far ?_ HA.out ?_ _))
                      all_goals (first | exact Hsl.out trivial | exact Hsl.out | omega | (simp; omega) | simp)
                    · exact Sl.nil _
                    · with_reducible (repeat' (first | exact hbl9 | refine Below.drew ?_ | refine Below.setCell ?_ ?_ _ | refine Below.alloc ?_ ?_ _))
                      all_goals (first | omega | (simp; omega) | simp)
                · have e98 : ((fr.toNat : Int) == 98) = false := beq_eq_false_iff_ne.2 (fun h => h98 (UInt8.toNat_inj.1 (Int.ofNat_inj.1 h)))
                  by_cases h107 : fr = 107
                  · subst h107
                    go_wp2_with (fail)
                    refine (bits_any r wr hrs).mono ?_
                    rintro e w9 ⟨v, bb, rfl, hbb, hsl, ⟨A, nA, cA, rfl, hA⟩, hb9⟩
                    have hps9 := Hps.out.belowT hb9
                    have Hps9 := hidd hps9
                    clear c0 z0 c1 z1 c2 z2 c3 z3 c4 z4 c5 z5 c6 z6 c7 z7 c8 z8
                    have hbl9 := hps9.base.below
                    have c0 : w9.cell? ⟨w.heap.size, 0, none⟩ = some (.int .i64 0) := by have h := Hps9.out.base.res; simp [World.cell?, h]
                    have z0 := free_of_cells (Hps9.out.base.res) 0
                    have c1 : w9.cell? ⟨w.heap.size, 1, none⟩ = some (.int .i64 0) := by have h := Hps9.out.base.res; simp [World.cell?, h]
                    have z1 := free_of_cells (Hps9.out.base.res) 1
                    have c2 : w9.cell? ⟨w.heap.size, 2, none⟩ = some (.int .i64 0) := by have h := Hps9.out.base.res; simp [World.cell?, h]
                    have z2 := free_of_cells (Hps9.out.base.res) 2
                    have c3 : w9.cell? ⟨w.heap.size, 3, none⟩ = some (.int .i64 0) := by have h := Hps9.out.base.res; simp [World.cell?, h]
                    have z3 := free_of_cells (Hps9.out.base.res) 3
                    have c4 : w9.cell? ⟨w.heap.size, 4, none⟩ = some (.bool false) := by have h := Hps9.out.base.res; simp [World.cell?, h]
                    have z4 := free_of_cells (Hps9.out.base.res) 4
                    have c5 : w9.cell? ⟨w.heap.size, 5, none⟩ = some (.int .u8 0) := by have h := Hps9.out.base.res; simp [World.cell?, h]
                    have z5 := free_of_cells (Hps9.out.base.res) 5
                    have c6 : w9.cell? ⟨w.heap.size, 6, none⟩ = some (.int .i64 0) := by have h := Hps9.out.base.res; simp [World.cell?, h]
                    have z6 := free_of_cells (Hps9.out.base.res) 6
                    have c7 : w9.cell? ⟨w.heap.size, 7, none⟩ = some (.slice none 0 0) := by have h := Hps9.out.base.res; simp [World.cell?, h]
                    have z7 := free_of_cells (Hps9.out.base.res) 7
                    have c8 : w9.cell? ⟨w.heap.size, 8, none⟩ = some (.slice none 0 0) := by have h := Hps9.out.base.res; simp [World.cell?, h]
                    have z8 := free_of_cells (Hps9.out.base.res) 8
                    have d0 : w9.cell? ⟨b7, 0, none⟩ = some (.int .i64 xk) := by have h := Hps9.out.deed; simp [World.cell?, h, Dd.cells]
                    have d1 : w9.cell? ⟨b7, 1, none⟩ = some (.int .i64 xw) := by have h := Hps9.out.deed; simp [World.cell?, h, Dd.cells]
                    have d2 : w9.cell? ⟨b7, 2, none⟩ = some (.int .i64 xn) := by have h := Hps9.out.deed; simp [World.cell?, h, Dd.cells]
                    have d3 : w9.cell? ⟨b7, 3, none⟩ = some (.int .i64 xa) := by have h := Hps9.out.deed; simp [World.cell?, h, Dd.cells]
                    have d4 : w9.cell? ⟨b7, 4, none⟩ = some (.bool xi) := by have h := Hps9.out.deed; simp [World.cell?, h, Dd.cells]
                    have d5 : w9.cell? ⟨b7, 5, none⟩ = some (.int .u8 xm) := by have h := Hps9.out.deed; simp [World.cell?, h, Dd.cells]
                    have d6 : w9.cell? ⟨b7, 6, none⟩ = some (.int .i64 xo) := by have h := Hps9.out.deed; simp [World.cell?, h, Dd.cells]
                    have d7 : w9.cell? ⟨b7, 7, none⟩ = some (.slice none 0 0) := by have h := Hps9.out.deed; simp [World.cell?, h, Dd.cells]
                    have d8 : w9.cell? ⟨b7, 8, none⟩ = some (.slice none 0 0) := by have h := Hps9.out.deed; simp [World.cell?, h, Dd.cells]
                    have y8 := free_of_cells (Hps9.out.deed) 8
                    have Hsl := hidd hsl; have HA := hidd hA
                    clear hps9 hsl hA hr1 hr2 f3 g1 hb9
                    cases bb with
                    | false =>
                      have hp : parseF s = .error 2 := by rw [Hpb.out]; simp [endF, ← hbb]
                      have Hp := hidd hp; clear hp hbb
                      go_wp2_with (fail)
                      refine bodyPost_ret (v := .tuple #[.agg (zeroD.cells (.slice none 0 0) (.slice none 0 0)), .int .i64 2]) (by simp [results, Tryd.results7, go_sem, zeroD, Dd.cells, c0, c1, c2, c3, c4, c5, c6, c7, c8]) rfl (parsePost_err Hp.out rfl ?_)
                      with_reducible (repeat' (first | exact hbl9 | refine Below.drew ?_ | refine Below.setCell ?_ ?_ _ | refine Below.alloc ?_ ?_ _))
                      all_goals (first | omega | (simp; omega) | simp)
                    | true =>
                      have hp : parseF s = .ok ⟨xk, xw, xn, xa, xi, xm, xo, [], bitsF r.data.toList⟩ := by rw [Hpb.out]; simp [endF, ← hbb]
                      have Hp := hidd hp; clear hp hbb
                      have hslF : ∀ (j : Nat) (u : Value), True := fun _ _ => trivial
                      clear hslF
                      go_wp2_with (fail)
                      refine bodyPost_ret (v := .tuple #[.agg (Dd.cells ⟨xk, xw, xn, xa, xi, xm, xo, [], bitsF r.data.toList⟩ (.slice none 0 0) (.slice A nA cA)), .int .i64 0]) (by simp [results, Tryd.results7, go_sem, Dd.cells, c0, c1, c2, c3, c4, c5, c6, c7, c8]) rfl (parsePost_ok Hp.out _ _ rfl ?_ ?_ ?_)
                      · exact Sl.nil _
                      · with_reducible (repeat' (first | refine Sl.set_far ?_ HA.out ?_ _))
                        all_goals (first | exact Hsl.out trivial | exact Hsl.out | omega | (simp; omega) | simp)
                      · with_reducible (repeat' (first | exact hbl9 | refine Below.drew ?_ | refine Below.setCell ?_ ?_ _ | refine Below.alloc ?_ ?_ _))
                        all_goals (first | omega | (simp; omega) | simp)
                  · have e107 : ((fr.toNat : Int) == 107) = false := beq_eq_false_iff_ne.2 (fun h => h107 (UInt8.toNat_inj.1 (Int.ofNat_inj.1 h)))
                    have hp : parseF s = .error 2 := by rw [Hpb.out]; simp [endF, h98, h107]
                    have Hp := hidd hp; clear hp
                    go_wp2_with (fail)
                    refine bodyPost_ret (v := .tuple #[.agg (zeroD.cells (.slice none 0 0) (.slice none 0 0)), .int .i64 2]) (by simp [results, Tryd.results7, go_sem, zeroD, Dd.cells, c0, c1, c2, c3, c4, c5, c6, c7, c8]) rfl (parsePost_err Hp.out rfl ?_)
                    with_reducible (repeat' (first | exact Hbl.out | refine Below.drew ?_ | refine Below.setCell ?_ ?_ _ | refine Below.alloc ?_ ?_ _))
                    all_goals (first | omega | (simp; omega) | simp)
end Go.Proofs.YtojmimpaecpiaaaDoor
