/- Words for slices that a call reads. -/
import Derived.Test.YtojmimpaecpiaaaDoorProg
import Derived.WalkKit
import Derived.WalkSpells
import Derived.WalkLawsBesides
import Derived.Deep.QuietTactic
import Derived.BigQuiet
import Derived.Lib.ConvBytes
namespace Go.Proofs.YtojmimpaecpiaaaDoor
open Go.RowKit

theorem hidd {p : Prop} (h : p) : Hid p := h
/-- A slice value that shows just these cells, one cell an element. -/
def Sl (w : World) (v : Value) (xs : List Value) : Prop :=
  ∃ A c, v = .slice A xs.length c ∧ xs.length ≤ c ∧ (xs ≠ [] → ∃ b o, A = some ⟨b, o, none⟩ ∧ b < w.heap.size ∧ ∀ (j : Nat) (h : j < xs.length), w.cell? ⟨b, o + j, none⟩ = some xs[j])
theorem Sl.below {w w' : World} {v : Value} {xs : List Value} (h : Sl w v xs) (hb : Below w.heap.size w w') : Sl w' v xs := by
  obtain ⟨A, c, hv, hc, hx⟩ := h
  refine ⟨A, c, hv, hc, fun hn => ?_⟩
  obtain ⟨b, o, hA, hlt, hcell⟩ := hx hn
  exact ⟨b, o, hA, Nat.lt_of_lt_of_le hlt hb.size, fun j hj => (hb.cell (p := ⟨b, o + j, none⟩) hlt).trans (hcell j hj)⟩
theorem Sl.nil (w : World) : Sl w (.slice none 0 0) [] := ⟨none, 0, rfl, Nat.le_refl _, fun h => absurd rfl h⟩
/-- The two shapes: nothing in it, or an address. -/
theorem Sl.cases {w : World} {v : Value} {xs : List Value} (h : Sl w v xs) :
    (xs = [] ∧ ∃ A c, v = .slice A 0 c) ∨ (0 < xs.length ∧ ∃ b o c, v = .slice (some ⟨b, o, none⟩) xs.length c ∧ xs.length ≤ c ∧ b < w.heap.size ∧ ∀ (j : Nat) (h : j < xs.length), w.cell? ⟨b, o + j, none⟩ = some xs[j]) := by
  obtain ⟨A, c, hv, hc, hx⟩ := h
  by_cases hn : xs = []
  · subst hn; exact .inl ⟨rfl, A, c, hv⟩
  · obtain ⟨b, o, hA, hlt, hcell⟩ := hx hn
    subst hA
    exact .inr ⟨List.length_pos_iff.2 hn, b, o, c, hv, hc, hlt, hcell⟩
theorem blw_drewN {B : Nat} {w w1 : World} (h : Below B w w1) (n : Nat) : Below B w (w1.drewN n) := h.trans ⟨rfl, rfl, rfl, Nat.le_refl _, fun _ _ => rfl⟩
/-- Only blocks of S, and new ones, have turned. -/
structure Fr (S : Nat → Prop) (w w' : World) : Prop where
  os : w'.os = w.os
  tape : w'.tape = w.tape
  output : w'.output = w.output
  size : w.heap.size ≤ w'.heap.size
  block : ∀ k, k < w.heap.size → ¬ S k → w'.heap[k]? = w.heap[k]?
theorem Fr.refl (S : Nat → Prop) (w : World) : Fr S w w := ⟨rfl, rfl, rfl, Nat.le_refl _, fun _ _ _ => rfl⟩
theorem Fr.trans {S : Nat → Prop} {a b c : World} (h : Fr S a b) (k : Fr S b c) : Fr S a c :=
  ⟨k.os.trans h.os, k.tape.trans h.tape, k.output.trans h.output, Nat.le_trans h.size k.size, fun i hi hs => (k.block i (Nat.lt_of_lt_of_le hi h.size) hs).trans (h.block i hi hs)⟩
theorem Fr.below {S : Nat → Prop} {w w' : World} (h : Below w.heap.size w w') : Fr S w w' := ⟨h.os, h.tape, h.output, h.size, fun k hk _ => h.block k hk⟩
theorem Fr.setCell {S : Nat → Prop} {a w : World} (h : Fr S a w) {p : Addr} (hp : S p.block ∨ a.heap.size ≤ p.block) (u : Value) : Fr S a (w.setCell p u) :=
  ⟨h.os, h.tape, h.output, by simpa [World.setCell] using h.size, fun i hi hs => (Below.heap_setCell w p u i (by rintro rfl; rcases hp with hp | hp; exact hs hp; omega)).trans (h.block i hi hs)⟩
theorem Fr.toBelow {S : Nat → Prop} {w w' : World} {B : Nat} (h : Fr S w w') (hB : B ≤ w.heap.size) (hS : ∀ k, S k → B ≤ k) : Below B w w' :=
  ⟨h.os, h.tape, h.output, h.size, fun k hk => h.block k (Nat.lt_of_lt_of_le hk hB) (fun hs => absurd (hS k hs) (by omega))⟩
theorem Fr.cell {S : Nat → Prop} {w w' : World} (h : Fr S w w') {p : Addr} (hp : p.block < w.heap.size) (hs : ¬ S p.block) : w'.cell? p = w.cell? p := World.cell?_of_block (w := w) (h.block p.block hp hs)
/-- Bytes as cells. -/
def byteCells (l : List UInt8) : List Value := l.map fun b => .int .u8 b.toNat
theorem byteCells_length (l : List UInt8) : (byteCells l).length = l.length := by simp [byteCells]
theorem strOfNums_bytes (l : List UInt8) : strOfNums (l.map fun b => (b.toNat : Int)) = ⟨l.toArray⟩ := by
  apply ByteArray.ext
  apply Array.toList_inj.1
  rw [strOfNums_data, List.map_map]
  show l.map _ = l
  conv => rhs; rw [← List.map_id l]
  apply List.map_congr_left
  intro b _
  simp
/-- A slice of bytes as a string. -/
theorem Sl.string {w : World} {v : Value} {l : List UInt8} (h : Sl w v (byteCells l)) : (convert 22 9 v).run Tryd.prog w = .ok (.string ⟨l.toArray⟩) w := by
  rcases h.cases with ⟨he, A, c, rfl⟩ | ⟨hpos, b, o, c, rfl, _, _, hcell⟩
  · have hl : l = [] := by simpa [byteCells] using he
    subst hl
    rw [run_convert_bytes_string w 22 9 5 _ 0 c Tryd.underlying22 Tryd.underlying5 Tryd.underlying9]
    cases A with
    | none => simp [Conv.bytesToString]; rfl
    | some a => rw [run_bytesToString w a 0 c [] (run_loadCells_list (P := Tryd.prog) w a [] (fun j v hj => by simp at hj))]; rfl
  · rw [byteCells_length] at hpos ⊢
    have := run_convert_bytes_arg (P := Tryd.prog) w 22 5 Tryd.underlying22 Tryd.underlying5 b o l.length c (l.map fun b => (b.toNat : Int)) (by simp) (fun i hi => by
      have := hcell i (by rw [byteCells_length]; exact hi)
      rw [this]
      simp [byteCells, List.getD, hi]) 9 Tryd.underlying9
    rw [this, strOfNums_bytes]
theorem Sl.of_own {w : World} {base : Nat} {e : TypeId} {v : Value} {n : Nat} {xs : List Value} (h : w.ownsRow base e 1 v n xs) : Sl w v xs := by
  obtain ⟨hl, h⟩ := h
  rw [Nat.mul_one] at hl
  rcases h with ⟨rfl, rfl⟩ | ⟨g, cap, cur, rfl, _, hb, hc, _, hs, ht⟩
  · have : xs = [] := List.eq_nil_of_length_eq_zero hl
    subst this
    exact Sl.nil w
  · subst hl
    refine ⟨_, cap, rfl, hc, fun _ => ⟨g, 0, rfl, lt_of_block hb, fun j hj => ?_⟩⟩
    rw [Nat.zero_add]
    simp only [World.cell?, hb]
    have h1 : (cur.toList.take xs.length)[j]? = some xs[j] := by rw [Nat.mul_one] at ht; rw [ht]; exact List.getElem?_eq_getElem hj
    rw [List.getElem?_take, if_pos hj, Array.getElem?_toList] at h1
    simpa using h1
theorem own_one {w : World} {base : Nat} {e : TypeId} {v : Value} {n : Nat} {xs : List Value} (h : w.ownsRow base e 1 v n xs) : v.oneCell' = true := by
  rcases h.2 with ⟨rfl, _⟩ | ⟨g, cap, cur, rfl, _⟩ <;> rfl
theorem own_slice {w : World} {base B : Nat} {e : TypeId} {v : Value} {n : Nat} {xs : List Value} (h : w.ownsRow base e 1 v n xs) (hB : B ≤ base) : ∃ A m c, v = .slice A m c ∧ ∀ a, A = some a → B ≤ a.block := by
  rcases h.2 with ⟨rfl, _⟩ | ⟨g, cap, cur, rfl, hg, _⟩
  · exact ⟨_, _, _, rfl, fun a ha => by cases ha⟩
  · exact ⟨_, _, _, rfl, fun a ha => by injection ha with ha; subst ha; exact Nat.le_trans hB hg⟩
theorem Sl.set_far {w : World} {A : Option Addr} {m c B : Nat} {xs : List Value} (h : Sl w (.slice A m c) xs) (hA : ∀ a, A = some a → B ≤ a.block) {p : Addr} (hp : p.block < B) (u : Value) : Sl (w.setCell p u) (.slice A m c) xs := by
  obtain ⟨A', c', hv, hc, hx⟩ := h
  refine ⟨A', c', hv, hc, fun hn => ?_⟩
  obtain ⟨b, o, he, hlt, hcell⟩ := hx hn
  injection hv with hv1 hv2 hv3
  have := hA _ (hv1.trans he)
  refine ⟨b, o, he, by simpa [World.setCell] using hlt, fun j hj => ?_⟩
  rw [World.cell?_setCell_other _ _ _ _ (fun e => by have e := congrArg Addr.block e; have e : p.block = b := e; have : B ≤ b := this; omega)]
  exact hcell j hj
/-- '[]byte(s)': a new block with the bytes. -/
theorem bytes_of (s : ByteArray) (w : World) : ∃ c w1, (convert 9 22 (.string s)).run Tryd.prog w = .ok (.slice (some ⟨w.heap.size, 0, none⟩) s.size c) w1 ∧ Below w.heap.size w w1 ∧ w.heap.size < w1.heap.size ∧ s.size ≤ c ∧
    ∀ (j : Nat) (b : UInt8), s.data.toList[j]? = some b → w1.cell? ⟨w.heap.size, j, none⟩ = some (.int .u8 b.toNat) := by
  refine ⟨_, _, Lib.run_convert_string_bytes w 9 22 5 s (u := .string) Tryd.underlying9 Tryd.underlying22 Tryd.underlying5, ⟨?_, ?_, ?_, ?_, ?_⟩, ?_, ?_, ?_⟩
  · unfold Lib.bytesWorld World.freeze; split <;> rfl
  · unfold Lib.bytesWorld World.freeze; split <;> rfl
  · unfold Lib.bytesWorld World.freeze; split <;> rfl
  · rw [Lib.bytesWorld_size]; omega
  · exact fun k hk => Lib.bytesWorld_at_old w 5 s k hk
  · rw [Lib.bytesWorld_size]; omega
  · exact grownCap_ge w s.size 0 5
  · intro j b hj
    have hlt : j < s.size := by show j < s.data.size; rw [← Array.length_toList]; exact (List.getElem?_eq_some_iff.1 hj).1
    rw [Lib.bytesWorld_cell w 5 s j hlt, List.getD_eq_getElem?_getD, hj]
    rfl
/-- '[]byte(s)', its block written out. -/
theorem bytes_of2 (s : ByteArray) (w : World) : ∃ c w1 cs fz, (convert 9 22 (.string s)).run Tryd.prog w = .ok (.slice (some ⟨w.heap.size, 0, none⟩) s.size c) w1 ∧ Below w.heap.size w w1 ∧ w.heap.size < w1.heap.size ∧ s.size ≤ c ∧
    w1.heap[w.heap.size]? = some (.cells cs 5 fz) ∧ ∀ (j : Nat) (b : UInt8), s.data.toList[j]? = some b → cs[j]? = some (.int .u8 b.toNat) := by
  obtain ⟨c, w1, hr, hb, hlt, hc, hcell⟩ := bytes_of s w
  have h2 := Lib.run_convert_string_bytes (P := Tryd.prog) w 9 22 5 s (u := .string) Tryd.underlying9 Tryd.underlying22 Tryd.underlying5
  have he := h2.symm.trans hr
  injection he with he1 he2
  subst he2
  refine ⟨c, _, _, _, hr, hb, hlt, hc, Lib.bytesWorld_at_new w 5 s, fun j b hj => ?_⟩
  have := hcell j b hj
  simpa [World.cell?, Lib.bytesWorld_at_new] using this
theorem own_below {w w' : World} {B : Nat} {e : TypeId} {size n : Nat} {v : Value} {xs : List Value} (h : w.ownsRow B e size v n xs) (hb : Below w.heap.size w w') : w'.ownsRow B e size v n xs := by
  refine ⟨h.1, ?_⟩
  rcases h.2 with h2 | ⟨g, cap, cur, hv, hB, hg, h3⟩
  · exact .inl h2
  · exact .inr ⟨g, cap, cur, hv, hB, (hb.block g (lt_of_block hg)).trans hg, h3⟩
theorem own_ne {w : World} {base : Nat} {e : TypeId} {size n : Nat} {v : Value} {xs : List Value} (h : w.ownsRow base e size v n xs) {k : Nat} {cs : Array Value} {t : TypeId} {fz : Nat × Nat} (hk : w.heap[k]? = some (.cells cs t fz)) (hne : e ≠ t) : some k ≠ v.ownBlock := by
  rcases h.2 with ⟨rfl, _⟩ | ⟨g, cap, cur, rfl, _, hg, _⟩
  · simp [Value.ownBlock]
  · intro he
    have : k = g := by simpa [Value.ownBlock] using he
    subst this
    rw [hg] at hk
    injection hk with hk
    injection hk with _ ht
    exact hne ht
theorem grown_keep {w w6 : World} {base : Nat} {e : TypeId} {size n : Nat} {v : Value} {xs : List Value} {o : Obj} (h : w.ownsRow base e size v n xs) (hg : (w.alloc o).grownBy w6 v.ownBlock) {k : Nat} {cs : Array Value} {t : TypeId} {fz : Nat × Nat} (hk : w.heap[k]? = some (.cells cs t fz)) (hne : e ≠ t) :
    w6.heap[k]? = some (.cells cs t fz) := by
  rw [hg.block k (by have := lt_of_block hk; simp; omega) (own_ne h hk hne), Below.heap_alloc w o k (lt_of_block hk)]
  exact hk
theorem one_string (s : ByteArray) : ∀ u ∈ [Value.string s], u.oneCell' = true := by simp [Value.oneCell']
end Go.Proofs.YtojmimpaecpiaaaDoor
