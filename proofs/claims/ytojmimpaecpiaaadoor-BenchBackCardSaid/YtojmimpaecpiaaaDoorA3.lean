/- bits, digits, marks. -/
import Derived.Test.YtojmimpaecpiaaaDoorBase
namespace Go.Proofs.YtojmimpaecpiaaaDoor
open Go.RowKit

theorem Tryd.info4 : (Tryd.prog.info? 4).map (fun i => (i.zero, i.size, i.bytes)) = some (some (.bool false), 1, 1) := by kernel_rfl
theorem Tryd.info5 : (Tryd.prog.info? 5).map (fun i => (i.zero, i.size, i.bytes)) = some (some (.int .u8 0), 1, 1) := by kernel_rfl

/-- Is a byte a digit of bits? -/
def bitOk (c : UInt8) : Bool := c == 48 || c == 49
/-- The bits of a word, if they are bits. -/
def bitsF (l : List UInt8) : List Bool := l.map (· == 49)

def BitsPost (w : World) (l : List UInt8) (e : Ending) (w' : World) : Prop :=
  ∃ v b, e = .returned (.tuple #[v, .bool b]) ∧ b = l.all bitOk ∧ (b = true → Sl w' v ((bitsF l).map .bool)) ∧ (∃ A m c, v = .slice A m c ∧ ∀ a, A = some a → w.heap.size ≤ a.block) ∧ Below w.heap.size w w'

theorem one_bool (b : Bool) : ∀ u ∈ [Value.bool b], u.oneCell' = true := by simp [Value.oneCell']
theorem bits_step {l : List UInt8} {k : Nat} {c : UInt8} (h : l[k]? = some c) : (bitsF (l.take k)).map Value.bool ++ [Value.bool (c == 49)] = (bitsF (l.take (k + 1))).map Value.bool := by
  rw [List.take_add_one, h]; simp [bitsF]

set_option maxRecDepth 100000 in
set_option maxHeartbeats 1000000 in
theorem bits_any (s : ByteArray) (w : World) (hs : s.size ≤ 2500) :
    Calls Tryd.prog 20 #[.string s] w (BitsPost w s.data.toList) := by
  obtain ⟨c0, w1, hconv, hb1, hlt1, hc0, hcell⟩ := bytes_of s w
  obtain ⟨i0, hi, hz0, hz1, hz2⟩ := info_parts Tryd.info4
  have hsz : s.data.toList.length = s.size := Array.length_toList
  generalize hl : s.data.toList = l at *
  have Hl := hidd hl; clear hl
  have Hsz := hidd hsz; clear hsz
  go_enter Tryd.func20, Tryd.ntmps20
  go_wp2
  go_loopw [4, 10] (fun v i wr => ∃ k : Nat, k ≤ s.size ∧ i = .int .i64 k ∧ (l.take k).all bitOk = true ∧ wr.ownsRow w1.heap.size 4 1 v k ((bitsF (l.take k)).map .bool) ∧ Below w1.heap.size w1 wr) (fun _ i _ => s.size - (intOf i).toNat)
  case atStart => exact ⟨0, Nat.zero_le _, rfl, by simp, by simpa [bitsF] using World.ownsRow_nil _ _ _ _, Below.refl _ _⟩
  case round =>
    obtain ⟨k, hk, rfl, hall, hown, hbw⟩ := hrel
    by_cases hlt : k < s.size
    · obtain ⟨c, hc⟩ : ∃ c, l[k]? = some c := ⟨_, List.getElem?_eq_getElem (by rw [Hsz.out]; exact hlt)⟩
      have g : wr.cell? ⟨w.heap.size, k, none⟩ = some (.int .u8 c.toNat) := (hbw.cell (p := ⟨w.heap.size, k, none⟩) hlt1).trans (hcell k c hc)
      have hbit : bitsF (l.take (k + 1)) = bitsF (l.take k) ++ [c == 49] := by rw [List.take_add_one, hc]; simp [bitsF]
      have hall' : (l.take (k + 1)).all bitOk = ((l.take k).all bitOk && bitOk c) := by rw [List.take_add_one, hc]; simp
      have Hb := hidd hbit; have Ha := hidd hall'; have Hc := hidd hc
      clear hbit hall' hc
      by_cases h1 : c = 49
      · subst h1
        go_wp2_with (at_builtin; refine wpList_append_own _ rfl _ _ 23 rfl w1.heap.size 4 i0 (.bool false) 1 1 Tryd.underlying23 hi hz0 hz1 hz2 rfl (by decide) _ _ _ rfl (hown.alloc _) ⟨wr.heap.size, 0, none⟩ 1 1 [.bool true] rfl rfl (cell_one_new _ _ _) (one_bool _) (by unfold maxLen; omega) (by omega) (Nat.le_trans hbw.size (by simp)) ?_; intro v' w2 hown' hgrow _)
        have hown2 : w2.ownsRow w1.heap.size 4 1 v' (k + 1) ((bitsF (l.take (k + 1))).map .bool) := by rw [Hb.out]; simpa using hown'
        have hbw2 : Below w1.heap.size w1 w2 := (hbw.alloc hbw.size _).grown hgrow (by have := hbw.size; simp; omega) (fun j hj => (hown.lt j hj).1)
        have ha2 : (l.take (k + 1)).all bitOk = true := by rw [Ha.out, hall]; rfl
        clear hown' hgrow
        go_wp2
        go_roundw
        case rel => exact ⟨k + 1, by omega, by go_num, ha2, hown2, hbw2⟩
        case measure => simp [intOf]; omega
      · by_cases h0 : c = 48
        · subst h0
          go_wp2_with (at_builtin; refine wpList_append_own _ rfl _ _ 23 rfl w1.heap.size 4 i0 (.bool false) 1 1 Tryd.underlying23 hi hz0 hz1 hz2 rfl (by decide) _ _ _ rfl (hown.alloc _) ⟨wr.heap.size, 0, none⟩ 1 1 [.bool false] rfl rfl (cell_one_new _ _ _) (one_bool _) (by unfold maxLen; omega) (by omega) (Nat.le_trans hbw.size (by simp)) ?_; intro v' w2 hown' hgrow _)
          have hown2 : w2.ownsRow w1.heap.size 4 1 v' (k + 1) ((bitsF (l.take (k + 1))).map .bool) := by rw [Hb.out]; simpa using hown'
          have hbw2 : Below w1.heap.size w1 w2 := (hbw.alloc hbw.size _).grown hgrow (by have := hbw.size; simp; omega) (fun j hj => (hown.lt j hj).1)
          have ha2 : (l.take (k + 1)).all bitOk = true := by rw [Ha.out, hall]; rfl
          clear hown' hgrow
          go_wp2
          go_roundw
          case rel => exact ⟨k + 1, by omega, by go_num, ha2, hown2, hbw2⟩
          case measure => simp [intOf]; omega
        · have e0 : ¬ ((c.toNat : Int) = 48) := fun h => h0 (UInt8.toNat_inj.1 (Int.ofNat_inj.1 h))
          have e1 : ¬ ((c.toNat : Int) = 49) := fun h => h1 (UInt8.toNat_inj.1 (Int.ofNat_inj.1 h))
          have hno : l.all bitOk = false := by
            rw [List.all_eq_false]
            exact ⟨c, List.mem_of_getElem? Hc.out, by simp [bitOk, h0, h1]⟩
          have Hno := hidd hno; clear hno h0 h1
          have f0 : ((c.toNat : Int) != 48) = true := by rw [bne_iff_ne]; exact e0
          have f1 : ((c.toNat : Int) != 49) = true := by rw [bne_iff_ne]; exact e1
          clear e0 e1
          go_wp2
          go_ret2
          exact ⟨_, false, rfl, Hno.out.symm, fun h => (Bool.false_ne_true h).elim, ⟨_, _, _, rfl, fun a ha => by cases ha⟩, hb1.trans (hbw.mono (Nat.le_of_lt hlt1))⟩
    · obtain rfl : k = s.size := by omega
      have hfull : l.take s.size = l := by rw [List.take_of_length_le]; rw [Hsz.out]; exact Nat.le_refl _
      rw [hfull] at hall hown
      have Hall := hidd hall; clear hall hfull
      go_wp2
      go_ret2
      exact ⟨_, true, rfl, Hall.out.symm, fun _ => Sl.of_own hown, own_slice hown (Nat.le_of_lt hlt1), hb1.trans (hbw.mono (Nat.le_of_lt hlt1))⟩
end Go.Proofs.YtojmimpaecpiaaaDoor
