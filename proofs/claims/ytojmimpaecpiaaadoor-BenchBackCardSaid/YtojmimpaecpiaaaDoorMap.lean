/- General laws on maps of a world: a look-up, a store of a new key, of an old key, a delete, said of the entries outright. -/
import Derived.Test.YtojmimpaecpiaaaDoorBase
import Derived.Maps.RangeRun
namespace Go.Proofs.YtojmimpaecpiaaaDoor
open Go.RowKit
open Go.ChangeMaps (setBlock)
section
variable {P : Program} {w : World} {t k e : TypeId} {b clk : Nat} {es : Array MapEntry} {key v z : Value}
theorem run_lookup_at (ht : P.underlying t = some (.map k e)) (hb : w.heap[b]? = some (.map es clk)) (hc : ∀ em, (Instr.checkKey em 10000 k key).run P w = .ok () w) {r : Option (Nat × Value)}
    (hf : (Instr.findKey k key es.toList).run P w = .ok r w) (hz : (zeroValue e).run P w = .ok z w) (ok : Bool) :
    (Instr.lookup t (.map (some b)) key ok).run P w = .ok (if ok then .tuple #[(r.map (·.2)).getD z, .bool r.isSome] else (r.map (·.2)).getD z) w := by
  unfold Instr.lookup
  have hg := MapKept.run_getObj_map (P := P) hb
  cases r <;> cases ok <;> simp [run_underlying ht, hg, hc, hf, hz]
theorem run_update_new (ht : P.underlying t = some (.map k e)) (hb : w.heap[b]? = some (.map es clk)) (hc : ∀ em, (Instr.checkKey em 10000 k key).run P w = .ok () w)
    (hf : (Instr.findKey k key es.toList).run P w = .ok none w) :
    (Instr.mapUpdate t (.map (some b)) key v).run P w = .ok () { w with heap := w.heap.setIfInBounds b (.map (es.push { key, val := v, born := clk }) (clk + 1)) } := by
  unfold Instr.mapUpdate
  have hg := MapKept.run_getObj_map (P := P) hb
  have hs := fun o => MapKept.run_setObj_map (P := P) o hb
  simp [run_underlying ht, hg, hc, hf, hs]
end
/-- An iterator r over a map m that nobody has turned since: 'seen' have come. -/
structure Iter (w : World) (r m : Nat) (es : Array MapEntry) (clk : Nat) (seen : Array Nat) : Prop where
  it : w.heap[r]? = some (.mapIter (some m) clk seen clk)
  map : w.heap[m]? = some (.map es clk)
  born : ∀ e ∈ es, e.born < clk

theorem putBlock_same {w : World} {r : Nat} {o o' : Obj} (h : w.heap[r]? = some o) : (setBlock w r o').heap[r]? = some o' := by
  have : r < w.heap.size := lt_of_block h
  simp [setBlock, Array.getElem?_setIfInBounds, this]
theorem putBlock_other {w : World} {r k : Nat} {o' : Obj} (h : k ≠ r) : (setBlock w r o').heap[k]? = w.heap[k]? := by
  simp [setBlock, Array.getElem?_setIfInBounds, Ne.symm h]
theorem Fr.putBlock {S : Nat → Prop} {a w : World} (h : Fr S a w) {r : Nat} (hp : S r ∨ a.heap.size ≤ r) (o : Obj) : Fr S a (setBlock w r o) :=
  ⟨h.os, h.tape, h.output, by simpa [setBlock] using h.size, fun i hi hs => (putBlock_other (by rintro rfl; rcases hp with hp | hp; exact hs hp; omega)).trans (h.block i hi hs)⟩
theorem run_next_it {P : Program} {w : World} {r m : Nat} {es : Array MapEntry} {clk : Nat} {seen : Array Nat} (h : Iter w r m es clk seen) (ty : TypeId) :
    ((∀ e ∈ es, e.born ∈ seen) ∧ (Instr.next (.pointer (some ⟨r, 0, none⟩)) false ty).run P w = .ok (.tuple #[.bool false]) w) ∨
    ∃ e ∈ es, e.born ∉ seen ∧ ∃ q, (Instr.next (.pointer (some ⟨r, 0, none⟩)) false ty).run P w = .ok (.tuple #[.bool true, e.key, e.val]) (setBlock (w.drewN q) r (.mapIter (some m) clk (seen.push e.born) clk)) := by
  rcases run_next_at (P := P) w ty r m clk clk seen es clk h.it h.map (fun x hx => h.born x (by simpa using hx)) (Nat.le_refl _) with ⟨h0, hr⟩ | ⟨e, he, w1, hw, hr⟩
  · refine .inl ⟨fun e he => ?_, hr⟩
    rcases Classical.em (e.born ∈ seen) with hs | hs
    · exact hs
    · exfalso
      have : e ∈ leftOf es seen := by simp [leftOf, he, hs]
      rw [Array.eq_empty_of_size_eq_zero h0] at this
      simp at this
  · have he' : e ∈ es ∧ e.born ∉ seen := by simpa [leftOf] using he
    refine .inr ⟨e, he'.1, he'.2, ?_⟩
    rcases hw with rfl | rfl
    · exact ⟨0, hr⟩
    · exact ⟨1, hr⟩
theorem run_entry_it {P : Program} {w : World} {r m : Nat} {es : Array MapEntry} {clk : Nat} {seen : Array Nat} {e : MapEntry} (h : Iter w r m es clk (seen.push e.born)) (he : e ∈ es) (hu : (es.toList.map (·.born)).Nodup) :
    (Instr.entry (.pointer (some ⟨r, 0, none⟩))).run P w = .ok (.tuple #[e.key, e.val]) w :=
  run_entry_at (P := P) w r m clk seen es clk e h.it h.map (by simpa using he) hu
theorem run_fresh (k : ByteArray) (v : Value) (es : Array MapEntry) (clk : Nat) (h : Instr.findNow .string (.string k) es.toList 0 = some none) (w : World) :
    (Instr.mapUpdate 48 (.map (some w.heap.size)) (.string k) v).run Tryd.prog (w.alloc (.map es clk)) = .ok () (w.alloc (.map (es.push { key := .string k, val := v, born := clk }) (clk + 1))) := by
  rw [run_update_new Tryd.underlying48 (es := es) (clk := clk) (heap_alloc_new w _) (fun em => MapKept.run_checkKey Tryd.underlying9 (by simp [MapKept.IsKey]) em 9999) (MapKept.run_findKey Tryd.underlying9 h)]
  congr 1
  unfold World.alloc
  simp only
  congr 1
  apply Array.ext_getElem?
  intro i
  simp only [Array.getElem?_setIfInBounds, Array.getElem?_push, Array.size_push]
  split <;> split <;> simp_all
end Go.Proofs.YtojmimpaecpiaaaDoor
