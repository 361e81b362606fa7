/- What a walk through Text carries along; plain facts. -/
import Derived.Test.YtojmimpaecpiaaaDoorB0
import Derived.Test.YtojmimpaecpiaaaDoorA4
import Derived.Test.YtojmimpaecpiaaaDoorA9
import Derived.Deep.DeepCutAuto
import Derived.Deep.LoopGhost
namespace Go.Proofs.YtojmimpaecpiaaaDoor
open Go.RowKit
/-- The world while a line is made: the deed, its form, what is left of it, the words so far. -/
structure TS (w wx : World) (b : Nat) (x left : Dd) (vb vk lb lk : Value) (f : Form) (s : Value) (strs : List (List UInt8)) : Prop where
  deed : wx.heap[w.heap.size]? = some (.cells (x.cells vb vk) 25 (0, 0))
  form : wx.heap[b]? = some (.cells #[.int .i64 f.kind, .bool f.is, .string ⟨f.fields.toArray⟩, .int .u8 f.rest.toNat] 36 (0, 0))
  left : wx.heap[b + 1 + 1]? = some (.cells (left.cells lb lk) 25 (0, 0))
  words : wx.ownsRow (b + 1) 9 1 s strs.length (strs.map fun l => .string ⟨l.toArray⟩)
  below : Below w.heap.size w wx
  lt : w.heap.size < b
theorem TS.belowT {w wx wy : World} {b : Nat} {x left : Dd} {vb vk lb lk : Value} {f : Form} {s : Value} {strs : List (List UInt8)} (h : TS w wx b x left vb vk lb lk f s strs) (hb : Below wx.heap.size wx wy) : TS w wy b x left vb vk lb lk f s strs :=
  ⟨(hb.block _ (lt_of_block h.deed)).trans h.deed, (hb.block _ (lt_of_block h.form)).trans h.form, (hb.block _ (lt_of_block h.left)).trans h.left,
    own_below h.words hb, h.below.trans (hb.mono h.below.size), h.lt⟩
theorem TS.set {w wx : World} {b : Nat} {x left left' : Dd} {vb vk lb lk lb' lk' : Value} {f : Form} {s : Value} {strs : List (List UInt8)} (h : TS w wx b x left vb vk lb lk f s strs) (j : Nat) (u : Value)
    (hl : (left.cells lb lk).setIfInBounds j u = left'.cells lb' lk') : TS w (wx.setCell ⟨b + 1 + 1, j, none⟩ u) b x left' vb vk lb' lk' f s strs := by
  have hlt := h.lt
  refine ⟨(Below.heap_setCell _ _ _ _ (by show _ ≠ b + 1 + 1; omega)).trans h.deed, (Below.heap_setCell _ _ _ _ (by show _ ≠ b + 1 + 1; omega)).trans h.form, ?_, ?_, h.below.setCell (by show _ ≤ b + 1 + 1; omega) _, hlt⟩
  · have := h.left
    simp only [World.setCell, Array.getElem?_modify, this]
    simp [hl]
  · exact ownsRow_setCell_other h.words (fun e => own_ne h.words h.left (by decide) e.symm) u
/-- The state at the head of a round. -/
def LT (w wr : World) (b g0 : Nat) (cs : Array Value) (fz : Nat × Nat) (x : Dd) (vb vk : Value) (f : Form) (s : Value) (k : Nat) : Prop :=
  TS w wr b x ((f.fields.take k).foldl clrF (left0 x)) vb vk vb vk f s (f.w :: (f.fields.take k).map fun c => Lib.itoa (getF c x)) ∧ ((f.fields.take k).all fun c => numOk (getF c x)) = true ∧ wr.heap[g0]? = some (.cells cs 5 fz)
/-- Behind the switch. -/
def LT2 (w wr : World) (b g0 : Nat) (cs : Array Value) (fz : Nat × Nat) (x : Dd) (vb vk : Value) (f : Form) (s : Value) (k : Nat) : Prop :=
  TS w wr b x ((f.fields.take (k + 1)).foldl clrF (left0 x)) vb vk vb vk f s (f.w :: (f.fields.take k).map fun c => Lib.itoa (getF c x)) ∧ ((f.fields.take k).all fun c => numOk (getF c x)) = true ∧ wr.heap[g0]? = some (.cells cs 5 fz)
theorem LT2.of {w wr : World} {b g0 : Nat} {cs : Array Value} {fz : Nat × Nat} {x : Dd} {vb vk : Value} {f : Form} {s : Value} {k : Nat} {c : UInt8} (h : LT w wr b g0 cs fz x vb vk f s k) (hc : f.fields[k]? = some c) (j : Nat) (u : Value)
    (hl : (((f.fields.take k).foldl clrF (left0 x)).cells vb vk).setIfInBounds j u = (clrF ((f.fields.take k).foldl clrF (left0 x)) c).cells vb vk) : LT2 w (wr.setCell ⟨b + 1 + 1, j, none⟩ u) b g0 cs fz x vb vk f s k := by
  obtain ⟨h1, h2, h3⟩ := h
  have hne : g0 ≠ b + 1 + 1 := by
    rintro rfl; have := h3.symm.trans h1.left; injection this with this; injection this with _ ht; cases ht
  have hb := h1.below
  have hlt := h1.lt
  refine ⟨?_, h2, (Below.heap_setCell _ _ _ _ hne).trans h3⟩
  · rw [List.take_add_one, hc, List.foldl_append]
    exact h1.set j u hl
theorem LT2.same {w wr : World} {b g0 : Nat} {cs : Array Value} {fz : Nat × Nat} {x : Dd} {vb vk : Value} {f : Form} {s : Value} {k : Nat} {c : UInt8} (h : LT w wr b g0 cs fz x vb vk f s k) (hc : f.fields[k]? = some c)
    (hl : clrF ((f.fields.take k).foldl clrF (left0 x)) c = (f.fields.take k).foldl clrF (left0 x)) : LT2 w wr b g0 cs fz x vb vk f s k := by
  obtain ⟨h1, h2, h3⟩ := h
  refine ⟨?_, h2, h3⟩
  rw [List.take_add_one, hc, List.foldl_append]
  show TS w wr b x (clrF _ c) vb vk vb vk f s _
  rw [hl]; exact h1
theorem Tryd.info9 : (Tryd.prog.info? 9).map (fun i => (i.zero, i.size, i.bytes)) = some (some (.string { data := #[] }), 1, 16) := by kernel_rfl
theorem TS.app {w wx w6 : World} {b : Nat} {x left : Dd} {vb vk lb lk s v' : Value} {f : Form} {strs : List (List UInt8)} {l : List UInt8} {o : Obj} (h : TS w wx b x left vb vk lb lk f s strs)
    (hown : w6.ownsRow (b + 1) 9 1 v' (strs.length + 1) (strs.map (fun l => Value.string ⟨l.toArray⟩) ++ [.string ⟨l.toArray⟩])) (hg : (wx.alloc o).grownBy w6 s.ownBlock) : TS w w6 b x left vb vk lb lk f v' (strs ++ [l]) := by
  refine ⟨grown_keep h.words hg h.deed (by decide), grown_keep h.words hg h.form (by decide), grown_keep h.words hg h.left (by decide), ?_, ?_, h.lt⟩
  · simpa using hown
  · exact (h.below.alloc h.below.size _).grown hg (Nat.le_trans h.below.size (by simp)) (fun j hj => by have := (h.words.lt j hj).1; have := h.lt; omega)
theorem words_cells {w : World} {base n : Nat} {v : Value} {xs : List Value} (h : w.ownsRow base 9 1 v n xs) (hn : 0 < n) : ∃ g cap, v = .slice (some ⟨g, 0, none⟩) n cap ∧ g < w.heap.size ∧ n ≤ cap ∧ ∀ (j : Nat) x, xs[j]? = some x → w.cell? ⟨g, 0 + j, none⟩ = some x := by
  rcases h.2 with ⟨_, h0⟩ | ⟨g, cap, cur, hv, _, hg, hc, _, _, ht⟩
  · omega
  · refine ⟨g, cap, hv, lt_of_block hg, hc, fun j x hx => ?_⟩
    rw [← ht, Nat.mul_one] at hx
    rw [List.getElem?_take] at hx
    split at hx
    · simp only [World.cell?, hg, Nat.zero_add]
      simpa using hx
    · cases hx
theorem nDigits_le (u : Nat) : Lib.nDigits u ≤ u + 1 := by
  induction u using Nat.strongRecOn with
  | ind u ih =>
    by_cases h : u < 10
    · rw [Lib.nDigits_small h]; omega
    · rw [Lib.nDigits_big h]; have := ih (u / 10) (by omega); omega
theorem restOf_length (f : Form) (x : Dd) : (restOf f x).length ≤ 1 := by
  unfold restOf; repeat' split
  all_goals simp
theorem lens_le (n : Nat) : ∀ (l : List (List UInt8)), (∀ y ∈ l, y.length ≤ n) → Lib.lens l ≤ l.length * n
  | [], _ => by simp [Lib.lens]
  | y :: r, h => by
    have h1 := h y List.mem_cons_self
    have h2 := lens_le n r (fun z hz => h z (List.mem_cons_of_mem _ hz))
    unfold Lib.lens at *
    simp only [List.map_cons, List.sum_cons, List.length_cons]
    rw [Nat.add_mul]; omega
theorem lens_app (a b : List (List UInt8)) : Lib.lens (a ++ b) = Lib.lens a + Lib.lens b := by simp [Lib.lens]
/-- How long a line can be. -/
theorem wordsOf_length (f : Form) (x : Dd) (hf : f.fields.length ≤ 10) (hw : f.w.length ≤ 10) (hn : ∀ c ∈ f.fields, 0 ≤ getF c x ∧ getF c x ≤ 1073741824) (hb : x.body.length ≤ 1200) (hk : x.keeps.length ≤ 2500) : (Lib.join (wordsOf f x) [32]).length ≤ 100000000000 := by
  have hl : Lib.lens (wordsOf f x) ≤ 10 + 10 * 1073741827 + 5000 := by
    have h1 : Lib.lens (f.fields.map fun c => Lib.itoa (getF c x)) ≤ f.fields.length * 1073741827 := by
      have := lens_le 1073741827 (f.fields.map fun c => Lib.itoa (getF c x)) (fun y hy => by
        obtain ⟨c, hc, rfl⟩ := List.mem_map.1 hy
        obtain ⟨h0, h2⟩ := hn c hc
        obtain ⟨m, hm⟩ := Int.eq_ofNat_of_zero_le h0
        rw [hm, itoa_nat, Lib.decDigits_length]
        have := nDigits_le m
        omega)
      rwa [List.length_map] at this
    have h2 : Lib.lens (restOf f x) ≤ 5000 := by
      unfold restOf; repeat' split
      all_goals simp only [Lib.lens, List.map_cons, List.map_nil, List.sum_cons, List.sum_nil, hexF_length, marksF, List.length_map, List.length_nil]
      all_goals omega
    unfold wordsOf
    rw [lens_app]
    have : Lib.lens (f.w :: f.fields.map fun c => Lib.itoa (getF c x)) = f.w.length + Lib.lens (f.fields.map fun c => Lib.itoa (getF c x)) := by simp [Lib.lens]
    rw [this]
    have := Nat.mul_le_mul_right 1073741827 hf
    omega
  unfold wordsOf at *
  rw [List.cons_append, Lib.join_length]
  rw [List.cons_append] at hl
  have := restOf_length f x
  simp only [List.length_append, List.length_map, List.length_cons, List.length_nil]
  omega
theorem join_any (g cap n : Nat) (xs : List (List UInt8)) (w : World) (hn : xs.length = n) (hg : g < w.heap.size) (hc : n ≤ cap)
    (hcells : ∀ (j : Nat) x, (xs.map fun l => Value.string ⟨l.toArray⟩)[j]? = some x → w.cell? ⟨g, 0 + j, none⟩ = some x) (hlen : (Lib.join xs [32]).length ≤ 140737488355328) (hxs : xs.length ≤ 100000) :
    Calls Tryd.prog 13 #[.slice (some ⟨g, 0, none⟩) n cap, .string { data := #[32] }] w fun e w' => e = .returned (.string ⟨(Lib.join xs [32]).toArray⟩) ∧ Below w.heap.size w w' := by
  have hm : (xs.map fun l => (⟨l.toArray⟩ : ByteArray)).map (·.data.toList) = xs := by
    rw [List.map_map]
    conv => rhs; rw [← List.map_id xs]
    exact List.map_congr_left (fun l _ => rfl)
  have := Tryd.strings_Join g 0 cap (xs.map fun l => (⟨l.toArray⟩ : ByteArray)) { data := #[32] } w (fun j x hx => hcells j (.string x) (by
    rw [List.getElem?_map] at hx ⊢
    cases h : xs[j]? with
    | none => rw [h] at hx; cases hx
    | some y => rw [h] at hx; injection hx with hx; subst hx; rfl)) hg (by rw [List.length_map]; omega) (by rw [List.length_map]; omega) (by rw [hm]; exact hlen)
  rw [List.length_map, hm, hn] at this
  exact this
theorem text_long {x : Dd} {f : Form} (hf : formFor x.kind x.is = some f) (h : (f.fields.all (fun c => numOk (getF c x)) && (f.fields.foldl clrF (left0 x)).bare && restOk f x) = true) (hl : 2200 < (Lib.join (wordsOf f x) [32]).length) : textF x = .error 3 := by
  unfold textF; rw [hf]; dsimp only; rw [if_pos h, if_pos hl]
theorem text_fine {x : Dd} {f : Form} (hf : formFor x.kind x.is = some f) (h : (f.fields.all (fun c => numOk (getF c x)) && (f.fields.foldl clrF (left0 x)).bare && restOk f x) = true) (hl : ¬ 2200 < (Lib.join (wordsOf f x) [32]).length) : textF x = .ok (Lib.join (wordsOf f x) [32]) := by
  unfold textF; rw [hf]; dsimp only; rw [if_pos h, if_neg hl]
theorem textPost_err {w w' : World} {x : Dd} {e : Ending} {n : Int} (h : textF x = .error n) (he : e = .returned (.tuple #[.string { data := #[] }, .int .i64 n])) (hb : Below w.heap.size w w') : TextPost w x e w' := by
  unfold TextPost; rw [h]; exact ⟨he, hb⟩
theorem textPost_ok {w w' : World} {x : Dd} {e : Ending} {s : List UInt8} (h : textF x = .ok s) (he : e = .returned (.tuple #[.string ⟨s.toArray⟩, .int .i64 0])) (hb : Below w.heap.size w w') : TextPost w x e w' := by
  unfold TextPost; rw [h]; exact ⟨he, hb⟩
theorem text_err {x : Dd} {f : Form} (hf : formFor x.kind x.is = some f) (h : (f.fields.all (fun c => numOk (getF c x)) && (f.fields.foldl clrF (left0 x)).bare && restOk f x) = false) : textF x = .error 2 := by
  unfold textF; rw [hf]; dsimp only; rw [if_neg (by rw [h]; decide)]
/-- Behind the switch on what follows the numbers. -/
def RT (w wx : World) (b : Nat) (x L : Dd) (vb vk : Value) (f : Form) (s : Value) (strs : List (List UInt8)) : Prop :=
  ∃ (A : Option Addr) (nb cb : Nat) (A' : Option Addr) (nk ck : Nat), TS w wx b x L vb vk (.slice A nb cb) (.slice A' nk ck) f s (strs ++ restOf f x) ∧ nb = (if f.rest = 98 then 0 else x.body.length) ∧ nk = (if f.rest = 107 then 0 else x.keeps.length)
end Go.Proofs.YtojmimpaecpiaaaDoor
