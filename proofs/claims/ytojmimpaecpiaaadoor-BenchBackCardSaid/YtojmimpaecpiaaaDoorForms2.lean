/- The forms as records: a word's form, a deed's form. -/
import Derived.Test.YtojmimpaecpiaaaDoorForms
namespace Go.Proofs.YtojmimpaecpiaaaDoor
open Go.RowKit
open Go.ChangeMaps (setBlock)

structure Form where
  w : List UInt8
  kind : Int
  is : Bool
  fields : List UInt8
  rest : UInt8
  deriving DecidableEq

def formsL : List Form := [
  ⟨[116, 105, 99, 107], 1, false, [110], 0⟩, ⟨[116, 97, 107, 101], 2, false, [110], 0⟩, ⟨[102, 108, 111, 119], 14, false, [110], 0⟩,
  ⟨[97, 116], 3, false, [110], 0⟩, ⟨[100, 114, 111, 112], 4, false, [110], 0⟩, ⟨[100, 111, 117, 98, 108, 101], 5, false, [110], 0⟩,
  ⟨[109, 111, 118, 101], 6, false, [110, 97], 0⟩, ⟨[99, 117, 116], 7, true, [119, 97], 0⟩, ⟨[106, 111, 105, 110], 7, false, [119, 97], 0⟩,
  ⟨[97, 115, 107], 8, false, [119, 111], 98⟩, ⟨[97, 103, 97, 105, 110], 9, false, [119], 0⟩, ⟨[114, 101, 111, 112, 101, 110], 11, false, [119], 0⟩,
  ⟨[99, 114, 97, 115, 104], 10, false, [119, 110], 107⟩, ⟨[102, 117, 115, 101], 12, false, [119, 110], 0⟩, ⟨[116, 117, 114, 110], 13, false, [119, 110, 97, 109], 0⟩]
def Form.val (f : Form) : Value := .agg #[.int .i64 f.kind, .bool f.is, .string ⟨f.fields.toArray⟩, .int .u8 f.rest.toNat]
def entryOf (f : Form) (i : Nat) : MapEntry := { key := .string ⟨f.w.toArray⟩, val := f.val, born := i }
def entriesFrom : List Form → Nat → List MapEntry
  | [], _ => []
  | f :: r, i => entryOf f i :: entriesFrom r (i + 1)
theorem formsE_eq : formsE.toList = entriesFrom formsL 0 := by rfl
theorem mem_entries : ∀ (l : List Form) (i : Nat) (e : MapEntry), e ∈ entriesFrom l i → ∃ f ∈ l, ∃ j, e = entryOf f j
  | [], _, _, h => by simp [entriesFrom] at h
  | f :: r, i, e, h => by
    simp only [entriesFrom, List.mem_cons] at h
    rcases h with rfl | h
    · exact ⟨f, List.mem_cons_self, i, rfl⟩
    · obtain ⟨g, hg, j, hj⟩ := mem_entries r (i + 1) e h
      exact ⟨g, List.mem_cons_of_mem _ hg, j, hj⟩
theorem formsE_mem {e : MapEntry} (h : e ∈ formsE) : ∃ f ∈ formsL, ∃ j, e = entryOf f j := mem_entries formsL 0 e (by rw [← formsE_eq]; simpa using h)
theorem formsE_nodup : (formsE.toList.map (·.born)).Nodup := by
  have : formsE.toList.map (·.born) = List.range 15 := by rfl
  rw [this]; exact List.nodup_range
theorem formsE_born : ∀ e ∈ formsE, e.born < 15 := by
  intro e he
  have : e.born ∈ formsE.toList.map (·.born) := List.mem_map_of_mem (by simpa using he)
  rw [show formsE.toList.map (·.born) = List.range 15 by rfl] at this
  exact List.mem_range.1 this

/-- The form of a word. -/
def formOf (l : List UInt8) : Option Form := formsL.find? fun f => f.w == l
theorem bytes_beq (a b : ByteArray) : (a == b) = (a.data == b.data) := by
  cases a; cases b; rfl
theorem find_entries (s : ByteArray) : ∀ (l : List Form) (i : Nat), ∃ r, Instr.findNow .string (.string s) (entriesFrom l i) i = some r ∧ r.map (·.2) = (l.find? fun f => f.w == s.data.toList).map Form.val
  | [], i => ⟨none, rfl, rfl⟩
  | f :: r, i => by
    by_cases h : f.w = s.data.toList
    · refine ⟨some (i, f.val), ?_, ?_⟩
      · have hb : (s == (⟨f.w.toArray⟩ : ByteArray)) = true := by rw [h, bytes_beq]; simp
        simp only [entriesFrom, entryOf, Instr.findNow, Instr.sameNow, hb]
      · rw [List.find?_cons, h]; simp
    · obtain ⟨x, hx, hm⟩ := find_entries s r (i + 1)
      refine ⟨x, ?_, ?_⟩
      · have hb : (s == (⟨f.w.toArray⟩ : ByteArray)) = false := by
          rw [bytes_beq, beq_eq_false_iff_ne]; intro hh; exact h (by rw [hh])
        simp only [entriesFrom, entryOf, Instr.findNow, Instr.sameNow, hb]
        exact hx
      · rw [List.find?_cons, show (f.w == s.data.toList) = false by simpa using h]; exact hm
def zeroForm : Value := .agg #[.int .i64 0, .bool false, .string ⟨#[]⟩, .int .u8 0]
theorem zero36 (w : World) : (zeroValue 36).run Tryd.prog w = .ok zeroForm w := by kernel_rfl
/-- The look-up of a word. -/
theorem forms_look (b : Nat) (s : ByteArray) (w : World) (hb : w.heap[b]? = some (.map formsE 15)) :
    (Instr.lookup 48 (.map (some b)) (.string s) true).run Tryd.prog w = .ok (.tuple #[((formOf s.data.toList).map Form.val).getD zeroForm, .bool (formOf s.data.toList).isSome]) w := by
  obtain ⟨r, hr, hm⟩ := find_entries s formsL 0
  rw [← formsE_eq] at hr
  rw [run_lookup_at Tryd.underlying48 hb (fun em => MapKept.run_checkKey Tryd.underlying9 (by simp [MapKept.IsKey]) em 9999) (MapKept.run_findKey Tryd.underlying9 hr) (zero36 w)]
  rw [show r.isSome = (formOf s.data.toList).isSome by
    unfold formOf
    have := congrArg Option.isSome hm
    simpa using this]
  rw [hm]; rfl

/-- Is this the form of a deed of this kind? -/
def fits (f : Form) (kind : Int) (is : Bool) : Bool := f.kind == kind && (kind != 7 || f.is == is)
/-- The form of a deed. -/
def formFor (kind : Int) (is : Bool) : Option Form := formsL.find? fun f => fits f kind is
theorem fits_one {f g : Form} (hf : f ∈ formsL) (hg : g ∈ formsL) {kind : Int} {is : Bool} (h1 : fits f kind is = true) (h2 : fits g kind is = true) : f = g := by
  have key : ∀ f ∈ formsL, ∀ g ∈ formsL, f.kind = g.kind → (f.kind ≠ 7 ∨ f.is = g.is) → f = g := by decide +kernel
  simp only [fits, Bool.and_eq_true, Bool.or_eq_true, beq_iff_eq, bne_iff_ne] at h1 h2
  refine key f hf g hg (h1.1.trans h2.1.symm) ?_
  rcases h1.2 with h | h
  · exact .inl (by rw [h1.1]; exact h)
  · rcases h2.2 with h' | h'
    · exact .inl (by rw [h1.1]; exact h')
    · exact .inr (h.trans h'.symm)
theorem formFor_some {f : Form} (hf : f ∈ formsL) {kind : Int} {is : Bool} (h : fits f kind is = true) : formFor kind is = some f := by
  cases e : formFor kind is with
  | none => exact absurd h (by have := List.find?_eq_none.1 e f hf; simpa using this)
  | some g =>
    have e' : formsL.find? (fun f => fits f kind is) = some g := e
    have hg : fits g kind is = true := by have := List.find?_some e'; exact this
    rw [fits_one (List.mem_of_find?_eq_some e') hf hg h]
theorem formFor_none {kind : Int} {is : Bool} (h : ∀ f ∈ formsL, fits f kind is = false) : formFor kind is = none := by
  rw [formFor, List.find?_eq_none]; intro f hf; simp [h f hf]
end Go.Proofs.YtojmimpaecpiaaaDoor
