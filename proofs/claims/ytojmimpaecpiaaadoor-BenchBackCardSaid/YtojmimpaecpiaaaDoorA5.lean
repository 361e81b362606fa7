/- words. -/
import Derived.Test.YtojmimpaecpiaaaDoorEnv
import Derived.Test.YtojmimpaecpiaaaDoorA1
import Derived.Lib.SplitLaws
namespace Go.Proofs.YtojmimpaecpiaaaDoor
open Go.RowKit

/-- The rune that no word has. -/
def pr (r : Nat) : Bool := decide (r < 33) || decide (126 < r)
theorem pr_at (w : World) : PredAtRunes Tryd.prog 28 #[] pr w := fun W x hx _ => by
  refine (w1_any x W).mono fun e w' ⟨he, hw⟩ => ⟨?_, 0, hw.symm⟩
  rw [he]; congr 2
  unfold pr
  rw [Bool.eq_iff_iff]; simp; omega
theorem enters28 : ∀ args w, (callFunc 28 args).run Tryd.prog w = .ok (.enter 28 args) w := enters_of Tryd.func28 (by kernel_rfl) rfl
def wBad (b : ByteArray) : Bool := b.toList.isEmpty || decide (0 ≤ Lib.idxFunc pr true b)
/-- The pieces of a line. -/
def pieces (s : ByteArray) : List ByteArray := Lib.splitB { data := #[32] } 0 (Lib.countB s { data := #[32] }) s
theorem pieces_length (s : ByteArray) : (pieces s).length = Lib.countB s { data := #[32] } + 1 := Lib.splitB_all { data := #[32] } (by decide) 0 _ s rfl
theorem pieces_le (s : ByteArray) : (pieces s).length ≤ s.size + 1 := by
  rw [pieces_length]; have := Lib.countB_le { data := #[32] } (by decide) s.size s (Nat.le_refl _); omega
/-- Has a line no words? -/
def noWords (s : ByteArray) : Bool := (pieces s).any wBad || s.data.toList.any fun c => decide (126 < c.toNat)
def WordsPost (w : World) (s : ByteArray) (e : Ending) (w' : World) : Prop :=
  (noWords s = true ∧ e = .returned (.slice none 0 0) ∨ noWords s = false ∧ ∃ b, w.heap.size ≤ b ∧ b < w'.heap.size ∧ e = .returned (.slice (some ⟨b, 0, none⟩) (pieces s).length (pieces s).length) ∧ ∀ (j : Nat) (x : ByteArray), (pieces s)[j]? = some x → w'.cell? ⟨b, j, none⟩ = some (.string x)) ∧ Below w.heap.size w w'

set_option maxHeartbeats 1000000 in
theorem words_any (s : ByteArray) (w : World) (hE : Env w) (hs : s.size ≤ 2500) : Calls Tryd.prog 16 #[.string s] w (WordsPost w s) := by
  have hpl := pieces_length s
  have hle := pieces_le s
  go_enter Tryd.func16, Tryd.ntmps16
  go_wp2_with (go_at_call 26; refine (Tryd.strings_Split_shaped s { data := #[32] } w hE.shaped (by omega) (by decide)).mono ?_)
  rintro e w1 ⟨rfl, hw1⟩
  have hb1 : Below w.heap.size w w1 := by rw [hw1]; exact (Below.refl _ _).alloc (Nat.le_refl _) _
  have hz1 : w.heap.size < w1.heap.size := by rw [hw1]; simp
  have hcell : ∀ (j : Nat) (x : ByteArray), (pieces s)[j]? = some x → w1.cell? ⟨w.heap.size, j, none⟩ = some (.string x) := by
    intro j x hj
    rw [hw1, World.cell?_alloc_at _ _ _ _ rfl]
    simp [pieces] at hj ⊢
    exact hj
  clear hw1
  rw [← hpl]
  have Hpl := hidd hpl; clear hpl
  generalize hn : (pieces s).length = n at *
  have Hn := hidd hn; clear hn
  go_wp2_with (fail)
  go_loopw [11] (fun i wr => ∃ k : Nat, k ≤ n ∧ i = .int .i64 k ∧ ((pieces s).take k).any wBad = false ∧ Below w1.heap.size w1 wr) (fun i _ => n - (intOf i).toNat)
  case atStart => exact ⟨0, Nat.zero_le _, rfl, by simp, Below.refl _ _⟩
  case round =>
    obtain ⟨k, hk, rfl, hno, hbw⟩ := hrel
    have Hno := hidd hno; clear hno
    by_cases hlt : k < n
    · obtain ⟨x, hx⟩ : ∃ x, (pieces s)[k]? = some x := ⟨_, List.getElem?_eq_getElem (by rw [Hn.out]; exact hlt)⟩
      have g : wr.cell? ⟨w.heap.size, k, none⟩ = some (.string x) := (hbw.cell (p := ⟨w.heap.size, k, none⟩) hz1).trans (hcell k x hx)
      have Hx := hidd hx; clear hx
      have hsucc : ((pieces s).take (k + 1)).any wBad = wBad x := by rw [List.take_add_one, Hx.out]; simp [Hno.out]
      have Hs := hidd hsucc; clear hsucc
      have hbad : wBad x = true → noWords s = true := fun h => by
        unfold noWords; rw [Bool.or_eq_true]; left; rw [List.any_eq_true]; exact ⟨x, List.mem_of_getElem? Hx.out, h⟩
      have Hbad := hidd hbad; clear hbad
      by_cases he : x.toList.isEmpty = true
      · have hw : wBad x = true := by unfold wBad; rw [he]; rfl
        have Hw := hidd hw; clear hw
        go_wp2_with (fail)
        go_ret
        exact ⟨.inl ⟨Hbad.out Hw.out, rfl⟩, hb1.trans (hbw.mono (Nat.le_of_lt hz1))⟩
      · have he' : x.toList.isEmpty = false := by simpa using he
        clear he
        by_cases hp : 0 ≤ Lib.idxFunc pr true x
        · have hw : wBad x = true := by unfold wBad; rw [he']; simpa using hp
          have Hw := hidd hw; clear hw
          go_wp2_with (go_at_call 27; refine (Tryd.strings_ContainsFunc_runes 28 #[] enters28 pr x wr (pr_at wr)).mono ?_; rintro e w2 ⟨rfl, hb2⟩)
          go_ret
          exact ⟨.inl ⟨Hbad.out Hw.out, rfl⟩, hb1.trans ((hbw.trans (hb2.mono hbw.size)).mono (Nat.le_of_lt hz1))⟩
        · have hw : wBad x = false := by unfold wBad; rw [he']; simpa using hp
          have Hw := hidd hw; clear hw
          have hp' : decide (0 ≤ Lib.idxFunc pr true x) = false := by simpa using hp
          clear hp
          go_wp2_with (go_at_call 27; refine (Tryd.strings_ContainsFunc_runes 28 #[] enters28 pr x wr (pr_at wr)).mono ?_; rintro e w2 ⟨rfl, hb2⟩)
          go_roundw
          case rel => exact ⟨k + 1, by omega, by go_num, by rw [Hs.out]; exact Hw.out, hbw.trans (hb2.mono hbw.size)⟩
          case measure => simp [intOf]; omega
    · obtain rfl : k = n := by omega
      have hall : (pieces s).any wBad = false := by have := Hno.out; rwa [List.take_of_length_le (by rw [Hn.out]; exact Nat.le_refl _)] at this
      have Hall := hidd hall; clear hall
      go_wp2_with (fail)
      go_loop [24] (fun i => ∃ q : Nat, q ≤ s.size ∧ i = .int .i64 q ∧ (s.data.toList.take q).any (fun c => decide (126 < c.toNat)) = false) (fun i => s.size - (intOf i).toNat)
      case atStart => exact ⟨0, Nat.zero_le _, rfl, by simp⟩
      case round =>
        obtain ⟨q, hq, rfl, hno2⟩ := hrel
        have Hno2 := hidd hno2; clear hno2
        by_cases hlt : q < s.size
        · have hx : s.data.toList[q]? = some s[q] := by
            rw [Array.getElem?_toList]; exact Array.getElem?_eq_getElem hlt
          have Hx := hidd hx; clear hx
          have hsucc : (s.data.toList.take (q + 1)).any (fun c => decide (126 < c.toNat)) = decide (126 < s[q].toNat) := by rw [List.take_add_one, Hx.out]; simp [Hno2.out]
          have Hs := hidd hsucc; clear hsucc
          have hbad : 126 < s[q].toNat → noWords s = true := fun h => by
            unfold noWords; rw [Bool.or_eq_true]; right; rw [List.any_eq_true]; exact ⟨_, List.mem_of_getElem? Hx.out, by simpa using h⟩
          have Hbad := hidd hbad; clear hbad
          by_cases hg : 126 < s[q].toNat
          · have hg' : (126 : Int) < (s[q].toNat : Int) := by omega
            go_wp2_with (fail)
            go_ret
            exact ⟨.inl ⟨Hbad.out hg, rfl⟩, hb1.trans (hbw.mono (Nat.le_of_lt hz1))⟩
          · have hg' : ¬ (126 : Int) < (s[q].toNat : Int) := by omega
            go_wp2_with (fail)
            go_round
            case rel => exact ⟨q + 1, by omega, by go_num, by rw [Hs.out]; simpa using hg⟩
            case measure => simp [intOf]; omega
        · have hnw : noWords s = false := by
            unfold noWords; rw [Hall.out]; have := Hno2.out
            rwa [List.take_of_length_le (by rw [Array.length_toList]; show s.size ≤ q; omega)] at this
          have Hnw := hidd hnw; clear hnw
          go_wp2_with (fail)
          go_ret
          exact ⟨.inr ⟨Hnw.out, w.heap.size, Nat.le_refl _, Nat.lt_of_lt_of_le hz1 hbw.size, by rw [Hn.out]; rfl, fun j x hj => (hbw.cell (p := ⟨w.heap.size, j, none⟩) hz1).trans (hcell j x hj)⟩, hb1.trans (hbw.mono (Nat.le_of_lt hz1))⟩
end Go.Proofs.YtojmimpaecpiaaaDoor
