/- word: the form of a deed. -/
import Derived.Test.YtojmimpaecpiaaaDoorForms2
namespace Go.Proofs.YtojmimpaecpiaaaDoor
open Go.RowKit
open Go.ChangeMaps (setBlock)

/-- What 'word' answers. -/
def WordPost (w : World) (kind : Int) (is : Bool) (e : Ending) (w' : World) : Prop :=
  e = .returned (match formFor kind is with
    | some f => .tuple #[.string ⟨f.w.toArray⟩, f.val, .bool true]
    | none => .tuple #[.string ⟨#[]⟩, zeroForm, .bool false]) ∧ Below w.heap.size w w'

/-- How many entries are still to come. -/
def leftN (w : World) (r : Nat) : Nat := match w.heap[r]? with
  | some (.mapIter _ _ seen _) => (formsE.toList.filter fun e => !seen.contains e.born).length
  | _ => 0
theorem filter_lt {α : Type} (p q : α → Bool) : ∀ (l : List α) (x : α), x ∈ l → p x = true → q x = false → (∀ y, q y = true → p y = true) → (l.filter q).length < (l.filter p).length
  | [], x, h, _, _, _ => by simp at h
  | y :: r, x, h, hp, hq, hpq => by
    have hle : ∀ l : List α, (l.filter q).length ≤ (l.filter p).length := fun l => by
      induction l with
      | nil => simp
      | cons a l ih =>
        simp only [List.filter_cons]
        by_cases hqa : q a = true
        · rw [if_pos hqa, if_pos (hpq a hqa)]; simp; exact ih
        · rw [if_neg hqa]; split
          · simp; omega
          · exact ih
    rcases List.mem_cons.1 h with rfl | h
    · simp only [List.filter_cons]
      rw [if_neg (by rw [hq]; decide), if_pos hp]
      have := hle r
      simp; omega
    · have ih := filter_lt p q r x h hp hq hpq
      simp only [List.filter_cons]
      by_cases hqa : q y = true
      · rw [if_pos hqa, if_pos (hpq y hqa)]; simp; exact ih
      · rw [if_neg hqa]; split
        · simp; omega
        · exact ih
theorem leftN_lt {w w' : World} {r m : Nat} {seen : Array Nat} {e : MapEntry} (h : w.heap[r]? = some (.mapIter (some m) 15 seen 15)) (h' : w'.heap[r]? = some (.mapIter (some m) 15 (seen.push e.born) 15)) (he : e ∈ formsE) (hs : e.born ∉ seen) : leftN w' r < leftN w r := by
  unfold leftN
  rw [h, h']
  refine filter_lt _ _ _ e (by simpa using he) (by simpa using hs) (by simp) (fun y hy => ?_)
  simp at hy ⊢
  exact hy.1
theorem entries_all : ∀ (l : List Form) (i : Nat), ∀ f ∈ l, ∃ j, entryOf f j ∈ entriesFrom l i
  | [], _, f, h => by simp at h
  | g :: r, i, f, h => by
    rcases List.mem_cons.1 h with rfl | h
    · exact ⟨i, by simp [entriesFrom]⟩
    · obtain ⟨j, hj⟩ := entries_all r (i + 1) f h
      exact ⟨j, by simp [entriesFrom, hj]⟩
theorem born_from : ∀ (l : List Form) (i : Nat) (e : MapEntry), e ∈ entriesFrom l i → i ≤ e.born
  | [], _, _, h => by simp [entriesFrom] at h
  | f :: r, i, e, h => by
    simp only [entriesFrom, List.mem_cons] at h
    rcases h with rfl | h
    · exact Nat.le_refl _
    · exact Nat.le_of_succ_le (born_from r (i + 1) e h)
theorem entry_uniq : ∀ (l : List Form) (i : Nat) (e e' : MapEntry), e ∈ entriesFrom l i → e' ∈ entriesFrom l i → e.born = e'.born → e = e'
  | [], _, _, _, h, _, _ => by simp [entriesFrom] at h
  | f :: r, i, e, e', h, h', hb => by
    simp only [entriesFrom, List.mem_cons] at h h'
    rcases h with rfl | h <;> rcases h' with rfl | h'
    · rfl
    · have := born_from r (i + 1) e' h'; simp [entryOf] at hb; omega
    · have := born_from r (i + 1) e h; simp [entryOf] at hb; omega
    · exact entry_uniq r (i + 1) e e' h h' hb
theorem entry_one {f g : Form} {i : Nat} (h : entryOf f i ∈ formsE) (h' : entryOf g i ∈ formsE) : entryOf f i = entryOf g i :=
  entry_uniq formsL 0 _ _ (by rw [← formsE_eq]; simpa using h) (by rw [← formsE_eq]; simpa using h') rfl
theorem Iter.alloc {w : World} {r m : Nat} {es : Array MapEntry} {clk : Nat} {seen : Array Nat} (h : Iter w r m es clk seen) (o : Obj) : Iter (w.alloc o) r m es clk seen :=
  ⟨(Below.heap_alloc w o r (lt_of_block h.it)).trans h.it, (Below.heap_alloc w o m (lt_of_block h.map)).trans h.map, h.born⟩
theorem leftN_alloc (w : World) (o : Obj) (r : Nat) (h : r < w.heap.size) : leftN (w.alloc o) r = leftN w r := by
  unfold leftN; rw [Below.heap_alloc w o r h]
theorem three_blocks (w : World) (a b c : Obj) : (((w.alloc a).alloc b).alloc c).heap[w.heap.size]? = some a ∧ (((w.alloc a).alloc b).alloc c).heap[w.heap.size + 1]? = some b ∧ (((w.alloc a).alloc b).alloc c).heap[w.heap.size + 1 + 1]? = some c ∧ (((w.alloc a).alloc b).alloc c).heap.size = w.heap.size + 1 + 1 + 1 := by
  refine ⟨?_, ?_, ?_, ?_⟩
  · show ((((w.heap.push a).push b).push c))[w.heap.size]? = _
    simp only [Array.getElem?_push, Array.size_push]
    rw [if_neg (by omega), if_neg (by omega), if_pos trivial]
  · show ((((w.heap.push a).push b).push c))[w.heap.size + 1]? = _
    simp only [Array.getElem?_push, Array.size_push]
    rw [if_neg (by omega), if_pos trivial]
  · show ((((w.heap.push a).push b).push c))[w.heap.size + 1 + 1]? = _
    simp only [Array.getElem?_push, Array.size_push]
    rw [if_pos trivial]
  · show ((((w.heap.push a).push b).push c)).size = _
    simp only [Array.size_push]
set_option maxRecDepth 100000 in
set_option maxHeartbeats 2000000 in
theorem word_any (kind who n at_ mask op : Int) (is : Bool) (vb vk : Value) (w : World) :
    Calls Tryd.prog 9 #[.agg #[.int .i64 kind, .int .i64 who, .int .i64 n, .int .i64 at_, .bool is, .int .u8 mask, .int .i64 op, vb, vk]] w (WordPost w kind is) := by
  go_enter Tryd.func9, Tryd.ntmps9
  go_wp2_with (fail)
  refine (forms_any _).mono ?_
  rintro e w1 ⟨rfl, hw1⟩
  have h3 := three_blocks w (.cells #[.int .i64 kind, .int .i64 who, .int .i64 n, .int .i64 at_, .bool is, .int .u8 mask, .int .i64 op, vb, vk] 25) (.cells #[.int .i64 0, .bool false, .string { data := #[] }, .int .u8 0] 36) (.map formsE 15)
  have hb1 : Below w.heap.size w w1 := by rw [← hw1]; exact (((Below.refl _ _).alloc (Nat.le_refl _) _).alloc (by simp) _).alloc (by simp; omega) _
  have h3' : w1.heap[w.heap.size]? = some (.cells #[.int .i64 kind, .int .i64 who, .int .i64 n, .int .i64 at_, .bool is, .int .u8 mask, .int .i64 op, vb, vk] 25) ∧ w1.heap[w.heap.size + 1]? = some (.cells #[.int .i64 0, .bool false, .string { data := #[] }, .int .u8 0] 36) ∧ w1.heap[w.heap.size + 1 + 1]? = some (.map formsE 15) ∧ w1.heap.size = w.heap.size + 1 + 1 + 1 := by rw [← hw1]; exact h3
  clear h3 hw1
  obtain ⟨k0, k1, k2, ks⟩ := h3'
  have hr := run_range_map (P := Tryd.prog) w1 48 9 36 (w.heap.size + 1 + 1) formsE 15 Tryd.underlying48 k2
  rw [ks] at hr
  have Ks := hidd ks; have K0 := hidd k0; have K1 := hidd k1; have K2 := hidd k2
  clear ks k0 k1 k2
  go_wp2_with (fail)
  have hit0 : Iter (w1.alloc (.mapIter (some (w.heap.size + 1 + 1)) 15 #[] 15)) (w.heap.size + 1 + 1 + 1) (w.heap.size + 1 + 1) formsE 15 #[] :=
    ⟨by rw [← Ks.out]; exact heap_alloc_new _ _, (Below.heap_alloc w1 _ _ (by rw [Ks.out]; omega)).trans K2.out, formsE_born⟩
  have Hit0 := hidd hit0; clear hit0
  go_loopw [9] (fun _ wr => ∃ seen : Array Nat, Iter wr (w.heap.size + 1 + 1 + 1) (w.heap.size + 1 + 1) formsE 15 seen ∧ (∀ f j, entryOf f j ∈ formsE → j ∈ seen → fits f kind is = false) ∧
    wr.heap[w.heap.size]? = some (.cells #[.int .i64 kind, .int .i64 who, .int .i64 n, .int .i64 at_, .bool is, .int .u8 mask, .int .i64 op, vb, vk] 25) ∧ wr.heap[w.heap.size + 1]? = some (.cells #[.int .i64 0, .bool false, .string { data := #[] }, .int .u8 0] 36) ∧ Below w.heap.size w wr ∧ w.heap.size + 1 + 1 + 1 < wr.heap.size) (fun _ wr => leftN wr (w.heap.size + 1 + 1 + 1))
  case atStart =>
    exact ⟨#[], Hit0.out, fun f j _ h => by simp at h, (Below.heap_alloc w1 _ _ (by rw [Ks.out]; omega)).trans K0.out, (Below.heap_alloc w1 _ _ (by rw [Ks.out]; omega)).trans K1.out, hb1.alloc hb1.size _, by have := Ks.out; simp; omega⟩
  case round =>
    obtain ⟨seen, hit, hseen, q0, q1, hbw, hsz⟩ := hrel
    rcases run_next_it (P := Tryd.prog) hit 0 with ⟨hdone, hrun⟩ | ⟨e, he, hns, q, hrun⟩
    · have hno : formFor kind is = none := formFor_none fun f hf => by
        obtain ⟨j, hj⟩ : ∃ j, entryOf f j ∈ formsE := by
          have : ∀ f ∈ formsL, ∃ j, entryOf f j ∈ entriesFrom formsL 0 := entries_all formsL 0
          obtain ⟨j, hj⟩ := this f hf
          exact ⟨j, by rw [← formsE_eq] at hj; simpa using hj⟩
        exact hseen f j hj (hdone _ hj)
      have Hno := hidd hno; have Hb := hidd hbw; have Q1 := hidd q1
      clear hno hdone hseen hit q0 q1
      have p0 : wr.cell? ⟨w.heap.size + 1, 0, none⟩ = some (.int .i64 0) := by simp [World.cell?, Q1.out]
      have p1 : wr.cell? ⟨w.heap.size + 1, 1, none⟩ = some (.bool false) := by simp [World.cell?, Q1.out]
      have p2 : wr.cell? ⟨w.heap.size + 1, 2, none⟩ = some (.string { data := #[] }) := by simp [World.cell?, Q1.out]
      have p3 : wr.cell? ⟨w.heap.size + 1, 3, none⟩ = some (.int .u8 0) := by simp [World.cell?, Q1.out]
      have z : ∀ i, wr.frozen? ⟨w.heap.size + 1, i, none⟩ = false := fun i => by simp [World.frozen?, Q1.out]
      have z0 := z 0; have z1 := z 1; have z2 := z 2; have z3 := z 3
      clear z
      go_wp2_with (fail)
      refine bodyPost_ret (v := .tuple #[.string ⟨#[]⟩, zeroForm, .bool false]) (by simp [results, Tryd.results9, go_sem, zeroForm, p0, p1, p2, p3]) rfl ⟨?_, ?_⟩
      · rw [Hno.out]
      · exact (((hbw.setCell (by simp) _).setCell (by simp) _).setCell (by simp) _).setCell (by simp) _
    · obtain ⟨⟨fw, fk, fi, ff, fr⟩, hf, j, rfl⟩ := formsE_mem he
      have hw2 : ∃ w2, setBlock (wr.drewN q) (w.heap.size + 1 + 1 + 1) (.mapIter (some (w.heap.size + 1 + 1)) 15 (seen.push j) 15) = w2 := ⟨_, rfl⟩
      obtain ⟨w2, hw2⟩ := hw2
      have hit2 : Iter w2 (w.heap.size + 1 + 1 + 1) (w.heap.size + 1 + 1) formsE 15 (seen.push j) := by
        rw [← hw2]
        exact ⟨putBlock_same (w := wr.drewN q) hit.it, (putBlock_other (w := wr.drewN q) (r := w.heap.size + 1 + 1 + 1) (by omega)).trans hit.map, formsE_born⟩
      have q0' : w2.heap[w.heap.size]? = some (.cells #[.int .i64 kind, .int .i64 who, .int .i64 n, .int .i64 at_, .bool is, .int .u8 mask, .int .i64 op, vb, vk] 25) := by rw [← hw2]; exact (putBlock_other (w := wr.drewN q) (by omega)).trans q0
      have q1' : w2.heap[w.heap.size + 1]? = some (.cells #[.int .i64 0, .bool false, .string { data := #[] }, .int .u8 0] 36) := by rw [← hw2]; exact (putBlock_other (w := wr.drewN q) (by omega)).trans q1
      have hb2 : Below w.heap.size w w2 := by
        rw [← hw2]; exact (Fr.putBlock (S := fun _ => False) (a := w) (w := wr.drewN q) (r := w.heap.size + 1 + 1 + 1) ⟨hbw.os, hbw.tape, hbw.output, hbw.size, fun k hk _ => hbw.block k hk⟩ (.inr (by omega)) _).toBelow (Nat.le_refl _) (fun _ h => h.elim)
      have hsz2 : w.heap.size + 1 + 1 + 1 < w2.heap.size := by rw [← hw2]; simpa [setBlock] using hsz
      have hen := run_entry_it (P := Tryd.prog) hit2 he formsE_nodup
      have hleft : leftN w2 (w.heap.size + 1 + 1 + 1) < leftN wr (w.heap.size + 1 + 1 + 1) := leftN_lt (e := entryOf ⟨fw, fk, fi, ff, fr⟩ j) hit.it hit2.it he hns
      change (Instr.next (.pointer (some ⟨w.heap.size + 1 + 1 + 1, 0, none⟩)) false 0).run Tryd.prog wr = .ok (.tuple #[.bool true, .string ⟨fw.toArray⟩, .agg #[.int .i64 fk, .bool fi, .string ⟨ff.toArray⟩, .int .u8 fr.toNat]]) (setBlock (wr.drewN q) (w.heap.size + 1 + 1 + 1) (.mapIter (some (w.heap.size + 1 + 1)) 15 (seen.push j) 15)) at hrun
      change (Instr.entry (.pointer (some ⟨w.heap.size + 1 + 1 + 1, 0, none⟩))).run Tryd.prog w2 = .ok (.tuple #[.string ⟨fw.toArray⟩, .agg #[.int .i64 fk, .bool fi, .string ⟨ff.toArray⟩, .int .u8 fr.toNat]]) w2 at hen
      rw [hw2] at hrun
      have Q0 := hidd q0'; have Q1 := hidd q1'
      have hnext : fits ⟨fw, fk, fi, ff, fr⟩ kind is = false → ∀ f i, entryOf f i ∈ formsE → i ∈ seen.push j → fits f kind is = false := fun hno f i hfi hi => by
        rcases Array.mem_push.1 hi with h | rfl
        · exact hseen f i hfi h
        · have : entryOf f i = entryOf ⟨fw, fk, fi, ff, fr⟩ i := entry_one hfi he
          have hff : f = ⟨fw, fk, fi, ff, fr⟩ := by
            obtain ⟨aw, ak, ai, af, ar⟩ := f
            simp only [entryOf, Form.val, MapEntry.mk.injEq, Value.string.injEq, ByteArray.mk.injEq, Value.agg.injEq] at this
            obtain ⟨h1, h2, _⟩ := this
            simp at h1 h2
            simp [h1, h2]
            exact UInt8.toNat_inj.1 (Int.ofNat_inj.1 h2.2.2.2)
          rw [hff]; exact hno
      have Hnext := hidd hnext; have Hit2 := hidd hit2; have Hf := hidd hf; have Hb2 := hidd hb2
      have p0 : w2.cell? ⟨w.heap.size, 0, none⟩ = some (.int .i64 kind) := by simp [World.cell?, Q0.out]
      have p4 : w2.cell? ⟨w.heap.size, 4, none⟩ = some (.bool is) := by simp [World.cell?, Q0.out]
      have r0 : w2.cell? ⟨w.heap.size + 1, 0, none⟩ = some (.int .i64 0) := by simp [World.cell?, Q1.out]
      have r1 : w2.cell? ⟨w.heap.size + 1, 1, none⟩ = some (.bool false) := by simp [World.cell?, Q1.out]
      have r2 : w2.cell? ⟨w.heap.size + 1, 2, none⟩ = some (.string { data := #[] }) := by simp [World.cell?, Q1.out]
      have r3 : w2.cell? ⟨w.heap.size + 1, 3, none⟩ = some (.int .u8 0) := by simp [World.cell?, Q1.out]
      have z : ∀ i, w2.frozen? ⟨w.heap.size + 1, i, none⟩ = false := fun i => by simp [World.frozen?, Q1.out]
      have z0 := z 0; have z1 := z 1; have z2 := z 2; have z3 := z 3
      have hs0 : w.heap.size < w2.heap.size := by omega
      have hs1 : w.heap.size + 1 < w2.heap.size := by omega
      clear z hit hseen q0 q1 hbw hw2 q0' q1' hit2 hnext hf hb2 he hns hr hsz
      by_cases hk : fk = kind
      · subst hk
        by_cases h7 : fk = 7
        · by_cases hi : fi = is
          · subst hi
            have hfit : fits ⟨fw, fk, fi, ff, fr⟩ fk fi = true := by simp [fits]
            have Hfor := hidd (formFor_some Hf.out hfit)
            clear hfit
            subst h7
            go_wp2_with (fail)
            go_region
            all_goals
              go_wp2_with (fail)
              refine bodyPost_ret (v := .tuple #[.string ⟨fw.toArray⟩, Form.val ⟨fw, 7, fi, ff, fr⟩, .bool true]) (by simp [results, Tryd.results9, go_sem, Form.val, r0, r1, r2, r3, hs1]) rfl ⟨by rw [Hfor.out], ?_⟩
              (with_reducible (repeat' (first | exact Hb2.out | refine Below.drew ?_ | refine Below.setCell ?_ ?_ _ | refine Below.alloc ?_ ?_ _)))
              all_goals (simp; try omega)
          · have hfit : fits ⟨fw, fk, fi, ff, fr⟩ fk is = false := by simp [fits, h7, hi]
            have Hno := hidd (Hnext.out hfit)
            clear hfit
            subst h7
            have hi1 : (fi == is) = false := by simpa using hi
            go_wp2_with (fail)
            go_roundw
            case rel => exact ⟨seen.push j, Hit2.out.alloc _, Hno.out, (Below.heap_alloc w2 _ _ hs0).trans Q0.out, (Below.heap_alloc w2 _ _ hs1).trans Q1.out, Hb2.out.alloc (Nat.le_of_lt hs0) _, by simp; omega⟩
            case measure => rw [leftN_alloc w2 _ _ (by omega)]; exact hleft
        · have hfit : fits ⟨fw, fk, fi, ff, fr⟩ fk is = true := by simp [fits, h7]
          have Hfor := hidd (formFor_some Hf.out hfit)
          clear hfit
          have h71 : (fk != 7) = true := by rw [bne_iff_ne]; exact h7
          go_wp2_with (fail)
          go_region
          all_goals
            go_wp2_with (fail)
            refine bodyPost_ret (v := .tuple #[.string ⟨fw.toArray⟩, Form.val ⟨fw, fk, fi, ff, fr⟩, .bool true]) (by simp [results, Tryd.results9, go_sem, Form.val, r0, r1, r2, r3, hs1]) rfl ⟨by rw [Hfor.out], ?_⟩
            (with_reducible (repeat' (first | exact Hb2.out | refine Below.drew ?_ | refine Below.setCell ?_ ?_ _ | refine Below.alloc ?_ ?_ _)))
            all_goals (simp; try omega)
      · have hfit : fits ⟨fw, fk, fi, ff, fr⟩ kind is = false := by simp [fits, hk]
        have Hno := hidd (Hnext.out hfit)
        clear hfit
        have hk1 : (fk == kind) = false := by simpa using hk
        go_wp2_with (fail)
        go_roundw
        case rel => exact ⟨seen.push j, Hit2.out.alloc _, Hno.out, (Below.heap_alloc w2 _ _ hs0).trans Q0.out, (Below.heap_alloc w2 _ _ hs1).trans Q1.out, Hb2.out.alloc (Nat.le_of_lt hs0) _, by simp; omega⟩
        case measure => rw [leftN_alloc w2 _ _ (by omega)]; exact hleft
theorem word_none (kind who n at_ mask op : Int) (is : Bool) (vb vk : Value) (w : World) (hf : formFor kind is = none) :
    Calls Tryd.prog 9 #[.agg #[.int .i64 kind, .int .i64 who, .int .i64 n, .int .i64 at_, .bool is, .int .u8 mask, .int .i64 op, vb, vk]] w fun e w' =>
      e = .returned (.tuple #[.string { data := #[] }, .agg #[.int .i64 0, .bool false, .string { data := #[] }, .int .u8 0], .bool false]) ∧ Below w.heap.size w w' := by
  have := word_any kind who n at_ mask op is vb vk w
  unfold WordPost at this
  rw [hf] at this
  exact this
theorem word_some (kind who n at_ mask op : Int) (is : Bool) (vb vk : Value) (w : World) (fw : List UInt8) (fk : Int) (fi : Bool) (ff : List UInt8) (fr : UInt8) (hf : formFor kind is = some ⟨fw, fk, fi, ff, fr⟩) :
    Calls Tryd.prog 9 #[.agg #[.int .i64 kind, .int .i64 who, .int .i64 n, .int .i64 at_, .bool is, .int .u8 mask, .int .i64 op, vb, vk]] w fun e w' =>
      e = .returned (.tuple #[.string ⟨fw.toArray⟩, .agg #[.int .i64 fk, .bool fi, .string ⟨ff.toArray⟩, .int .u8 fr.toNat], .bool true]) ∧ Below w.heap.size w w' := by
  have := word_any kind who n at_ mask op is vb vk w
  unfold WordPost at this
  rw [hf] at this
  exact this
end Go.Proofs.YtojmimpaecpiaaaDoor
