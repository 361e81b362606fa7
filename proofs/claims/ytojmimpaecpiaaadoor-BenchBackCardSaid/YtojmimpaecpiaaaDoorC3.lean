/- Text and Parse, whatever the input. -/
import Derived.Test.YtojmimpaecpiaaaDoorC2
import Derived.Test.YtojmimpaecpiaaaDoorB1
namespace Go.Proofs.YtojmimpaecpiaaaDoor
open Go.RowKit

theorem forms_small : ∀ f ∈ formsL, f.fields.length ≤ 10 ∧ f.w.length ≤ 10 := by decide +kernel
theorem text_any (x : Dd) (vb vk : Value) (w : World) (hE : Env w) (hvb : Sl w vb (byteCells x.body)) (hvk : Sl w vk (x.keeps.map .bool)) (hbl : x.body.length ≤ 1200) (hkl : x.keeps.length ≤ 2500) (hm : x.mask ≤ 255) :
    Calls Tryd.prog 5 #[.agg (x.cells vb vk)] w (TextPost w x) := by
  cases h : formFor x.kind x.is with
  | none => exact text_none x vb vk w h
  | some f =>
    have hf : f ∈ formsL := List.mem_of_find?_eq_some (show formsL.find? (fun f => fits f x.kind x.is) = some f from h)
    obtain ⟨h1, h2⟩ := forms_small f hf
    obtain ⟨fw, fk, fi, ff, fr⟩ := f
    exact text_some x vb vk w hE fw fk fi ff fr h hvb hvk hbl hkl hm h1 h2
theorem parse_any (s : ByteArray) (w : World) (hE : Env w) : Calls Tryd.prog 7 #[.string s] w (ParsePost w s) := by
  by_cases hl : 2200 < s.size
  · exact parse_long s w hl
  cases hn : noWords s with
  | true => exact parse_none s w hE hl hn
  | false =>
    have hlen := pieces_length s
    obtain ⟨p0, hp0⟩ : ∃ p0, (pieces s)[0]? = some p0 := ⟨_, List.getElem?_eq_getElem (by omega)⟩
    cases h : formOf p0.data.toList with
    | none => exact parse_main s p0 w hE hl hn hp0 0 false [] 0 false (.inl ⟨rfl, h, rfl, rfl, rfl, rfl⟩) (by decide)
    | some f =>
      have hf : f ∈ formsL := List.mem_of_find?_eq_some h
      obtain ⟨h1, h2⟩ := forms_small f hf
      obtain ⟨fw, fk, fi, ff, fr⟩ := f
      exact parse_main s p0 w hE hl hn hp0 fk fi ff fr true (.inr ⟨rfl, fw, h⟩) h1
end Go.Proofs.YtojmimpaecpiaaaDoor
