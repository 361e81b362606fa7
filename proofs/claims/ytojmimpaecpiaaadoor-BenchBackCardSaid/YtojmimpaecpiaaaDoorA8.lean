/- hexOf. -/
import Derived.Test.YtojmimpaecpiaaaDoorEnv
import Derived.Test.YtojmimpaecpiaaaDoorA6
import Derived.Test.YtojmimpaecpiaaaDoorBld
namespace Go.Proofs.YtojmimpaecpiaaaDoor
open Go.RowKit
/-- The digit of a number below 16. -/
def hexDig (n : Nat) : UInt8 := sixteenL.getD n 0
def hexF (l : List UInt8) : List UInt8 := l.flatMap fun b => [hexDig (b.toNat / 16), hexDig (b.toNat % 16)]
theorem six_fin : ∀ i : Fin 16, ({ data := #[48, 49, 50, 51, 52, 53, 54, 55, 56, 57, 97, 98, 99, 100, 101, 102] } : ByteArray)[i.val] = hexDig i.val := by decide +kernel
theorem six_at (n : Nat) (h : n < 16) (h' : n < ({ data := #[48, 49, 50, 51, 52, 53, 54, 55, 56, 57, 97, 98, 99, 100, 101, 102] } : ByteArray).size) : ({ data := #[48, 49, 50, 51, 52, 53, 54, 55, 56, 57, 97, 98, 99, 100, 101, 102] } : ByteArray)[n] = hexDig n := six_fin ⟨n, h⟩
theorem hexF_length : ∀ l : List UInt8, (hexF l).length = 2 * l.length
  | [] => rfl
  | b :: r => by
    have := hexF_length r
    unfold hexF at *
    rw [List.flatMap_cons, List.length_append, this]
    simp only [List.length_cons, List.length_nil]; omega
theorem hexF_succ {l : List UInt8} {k : Nat} {u : UInt8} (h : l[k]? = some u) : hexF (l.take (k + 1)) = hexF (l.take k) ++ [hexDig (u.toNat / 16), hexDig (u.toNat % 16)] := by
  rw [List.take_add_one, h]; simp [hexF]
set_option maxHeartbeats 1000000 in
theorem hexOf_any (l : List UInt8) (v : Value) (w : World) (hv : Sl w v (byteCells l)) (hs : l.length ≤ 1200) :
    Calls Tryd.prog 11 #[v] w fun e w' => e = .returned (.string ⟨(hexF l).toArray⟩) ∧ Below w.heap.size w w' := by
  obtain ⟨A, c, rfl, hc, hx⟩ := hv
  rw [byteCells_length] at *
  generalize hn : l.length = n at *
  have Hn := hidd hn; clear hn
  have Hx := hidd hx; clear hx
  go_enter Tryd.func11, Tryd.ntmps11
  go_wp2
  go_loopw [8] (fun i wr => ∃ k : Nat, k ≤ n ∧ i = .int .i64 k ∧ Lib.IsBuilder 60 5 w.heap.size w.heap.size (byteCells (hexF (l.take k))) wr ∧ Below w.heap.size w wr) (fun i _ => n - (intOf i).toNat)
  case atStart => exact ⟨0, Nat.zero_le _, rfl, .inl ⟨Nat.le_refl _, .slice none 0 0, heap_alloc_new w _, World.ownsRow_nil _ _ _ _, by simp [Value.ownBlock]⟩, (Below.refl _ _).alloc (Nat.le_refl _) _⟩
  case round =>
    obtain ⟨k, hk, rfl, hB, hbw⟩ := hrel
    by_cases hlt : k < n
    · obtain ⟨b, o, rfl, hlt2, hcell⟩ := Hx.out (fun h => by have := congrArg List.length h; simp [Hn.out, byteCells] at this; omega)
      obtain ⟨u, hu⟩ : ∃ u, l[k]? = some u := ⟨_, List.getElem?_eq_getElem (by rw [Hn.out]; exact hlt)⟩
      have g : wr.cell? ⟨b, o + k, none⟩ = some (.int .u8 u.toNat) := (hbw.cell (p := ⟨b, o + k, none⟩) hlt2).trans (by
        rw [hcell k (by rw [byteCells_length, Hn.out]; exact hlt)]
        obtain ⟨hj, e⟩ := List.getElem?_eq_some_iff.1 hu
        simp [byteCells, e])
      clear hcell
      have hlen : (byteCells (hexF (l.take k))).length ≤ 2 * k := by rw [byteCells_length, hexF_length, List.length_take]; omega
      have Hu := hidd hu; clear hu
      have hul := u.toNat_lt
      go_wp2_with (fail)
      refine (writeByte_any w.heap.size w.heap.size _ _ wr hB (by omega) hbw.size).mono ?_
      rintro e w1 ⟨rfl, hB1, hb1⟩
      have hB1' : Lib.IsBuilder 60 5 w.heap.size w.heap.size _ w1 := .inr hB1
      go_wp2_with (fail)
      refine (writeByte_any w.heap.size w.heap.size _ _ w1 hB1' (by simp only [List.length_append, List.length_cons, List.length_nil]; omega) (Nat.le_trans hbw.size hb1.size)).mono ?_
      rintro e w2 ⟨rfl, hB2, hb2⟩
      have hB2' : Lib.IsBuilder 60 5 w.heap.size w.heap.size (byteCells (hexF (l.take (k + 1)))) w2 := by
        rw [hexF_succ Hu.out]
        have e1 := six_at (u.toNat / 16) (by omega) (by show u.toNat / 16 < 16; omega)
        have e2 := six_at (u.toNat % 16) (by omega) (by show u.toNat % 16 < 16; omega)
        rw [e1, e2] at hB2
        refine .inr ?_
        have : byteCells (hexF (l.take k) ++ [hexDig (u.toNat / 16), hexDig (u.toNat % 16)]) = byteCells (hexF (l.take k)) ++ [.int .u8 (hexDig (u.toNat / 16)).toNat] ++ [.int .u8 (hexDig (u.toNat % 16)).toNat] := by simp [byteCells]
        rw [this]; exact hB2
      have hbw2 := hbw.trans (hb1.trans hb2)
      clear hB2 hB1 hB1'
      go_wp2_with (fail)
      go_roundw
      case rel => exact ⟨k + 1, by omega, by go_num, hB2', hbw2⟩
      case measure => simp [intOf]; omega
    · obtain rfl : k = n := by omega
      rw [List.take_of_length_le (by rw [Hn.out]; exact Nat.le_refl _)] at hB
      go_wp2_with (fail)
      refine (Tryd.Builder_String_any w.heap.size w.heap.size (hexF l) wr hB hbw.size).mono ?_
      rintro e w1 ⟨rfl, hb1⟩
      go_wp2_with (fail)
      go_ret
      exact ⟨rfl, hbw.trans hb1⟩
end Go.Proofs.YtojmimpaecpiaaaDoor
