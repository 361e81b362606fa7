/- digits. -/
import Derived.Test.YtojmimpaecpiaaaDoorEnv
import Derived.Test.YtojmimpaecpiaaaDoorA3
namespace Go.Proofs.YtojmimpaecpiaaaDoor
open Go.RowKit

/-- The value of a digit of bytes. -/
def hv (c : UInt8) : Option Nat := if 48 ≤ c.toNat ∧ c.toNat ≤ 57 then some (c.toNat - 48) else if 97 ≤ c.toNat ∧ c.toNat ≤ 102 then some (c.toNat - 87) else none
def sixteenL : List UInt8 := [48, 49, 50, 51, 52, 53, 54, 55, 56, 57, 97, 98, 99, 100, 101, 102]
theorem hv_index_fin : ∀ i : Fin 256, Lib.indexByte sixteenL (UInt8.ofNat i.val) = match hv (UInt8.ofNat i.val) with | some h => (h : Int) | none => -1 := by decide +kernel
theorem hv_index (c : UInt8) : Lib.indexByte sixteenL c = match hv c with | some h => (h : Int) | none => -1 := by
  have := hv_index_fin ⟨c.toNat, c.toNat_lt⟩
  simpa using this
theorem hv_lt {c : UInt8} {h : Nat} (e : hv c = some h) : h < 16 := by
  unfold hv at e; split at e
  · injection e; omega
  · split at e
    · injection e; omega
    · cases e
theorem hexd_yes (c : UInt8) (h : Nat) (e : hv c = some h) (w : World) :
    Calls Tryd.prog 33 #[.string { data := #[48, 49, 50, 51, 52, 53, 54, 55, 56, 57, 97, 98, 99, 100, 101, 102] }, .int .u8 c.toNat] w fun e w' => e = .returned (.int .i64 h) ∧ w' = w := by
  have := Tryd.strings_IndexByte { data := #[48, 49, 50, 51, 52, 53, 54, 55, 56, 57, 97, 98, 99, 100, 101, 102] } c.toNat w
  have hi := hv_index c
  rw [e] at hi
  refine this.mono fun e w' ⟨he, hw⟩ => ⟨?_, hw⟩
  rw [he]
  simp only [Int.toNat_natCast]
  rw [show c.toNat.toUInt8 = c by simp]
  exact congrArg (fun x => Ending.returned (.int .i64 x)) hi
theorem hexd_no (c : UInt8) (e : hv c = none) (w : World) :
    Calls Tryd.prog 33 #[.string { data := #[48, 49, 50, 51, 52, 53, 54, 55, 56, 57, 97, 98, 99, 100, 101, 102] }, .int .u8 c.toNat] w fun e w' => e = .returned (.int .i64 (-1)) ∧ w' = w := by
  have := Tryd.strings_IndexByte { data := #[48, 49, 50, 51, 52, 53, 54, 55, 56, 57, 97, 98, 99, 100, 101, 102] } c.toNat w
  have hi := hv_index c
  rw [e] at hi
  refine this.mono fun e w' ⟨he, hw⟩ => ⟨?_, hw⟩
  rw [he]
  simp only [Int.toNat_natCast]
  rw [show c.toNat.toUInt8 = c by simp]
  exact congrArg (fun x => Ending.returned (.int .i64 x)) hi
/-- Both cases under one: the value, -1 for none. -/
def hvI (c : UInt8) : Int := match hv c with | some h => (h : Int) | none => -1
theorem hexd_any (c : UInt8) (w : World) :
    Calls Tryd.prog 33 #[.string { data := #[48, 49, 50, 51, 52, 53, 54, 55, 56, 57, 97, 98, 99, 100, 101, 102] }, .int .u8 c.toNat] w fun e w' => e = .returned (.int .i64 (hvI c)) ∧ w' = w := by
  unfold hvI
  cases h : hv c with
  | none => exact hexd_no c h w
  | some n => exact hexd_yes c n h w

/-- The bytes of pairs of digits. -/
def hexPairs : List UInt8 → List UInt8
  | a :: b :: r => UInt8.ofNat ((hv a).getD 0 * 16 + (hv b).getD 0) :: hexPairs r
  | _ => []
def hexOk (l : List UInt8) : Bool := l.length % 2 == 0 && l.all fun c => (hv c).isSome
def DigPost (w : World) (l : List UInt8) (e : Ending) (w' : World) : Prop :=
  ∃ v b, e = .returned (.tuple #[v, .bool b]) ∧ b = hexOk l ∧ (b = true → Sl w' v (byteCells (hexPairs l))) ∧ (∃ A m c, v = .slice A m c ∧ ∀ a, A = some a → w.heap.size ≤ a.block) ∧ Below w.heap.size w w'
theorem hexPairs_length : ∀ l : List UInt8, (hexPairs l).length = l.length / 2
  | [] => by simp [hexPairs]
  | [_] => by simp [hexPairs]
  | a :: b :: r => by rw [hexPairs, List.length_cons, hexPairs_length r]; simp only [List.length_cons]; omega
theorem hexPairs_at : ∀ (l : List UInt8) (k : Nat) (a b : UInt8), l[2 * k]? = some a → l[2 * k + 1]? = some b → (hexPairs l)[k]? = some (UInt8.ofNat ((hv a).getD 0 * 16 + (hv b).getD 0))
  | [], k, a, b, h, _ => by simp at h
  | [_], k, a, b, _, h => by simp at h
  | x :: y :: r, 0, a, b, h1, h2 => by simp at h1 h2; subst h1; subst h2; rfl
  | x :: y :: r, k + 1, a, b, h1, h2 => by
    rw [hexPairs, List.getElem?_cons_succ]
    refine hexPairs_at r k a b ?_ ?_
    · rw [show 2 * (k + 1) = 2 * k + 1 + 1 by omega] at h1; simpa using h1
    · rw [show 2 * (k + 1) + 1 = 2 * k + 1 + 1 + 1 by omega] at h2; simpa using h2

/-- The row that is being filled: the first k places are filled. -/
def fillRow (l : List UInt8) (n k : Nat) : Array Value := (byteCells (l.take k) ++ List.replicate (n - k) (Value.int .u8 0)).toArray
theorem fillRow_size (l : List UInt8) (n k : Nat) (hk : k ≤ n) (hl : l.length = n) : (fillRow l n k).size = n := by simp [fillRow, byteCells]; omega
theorem fillRow_set (l : List UInt8) (n k : Nat) (x : UInt8) (hk : k < n) (hl : l.length = n) (hx : l[k]? = some x) : (fillRow l n k).setIfInBounds k (.int .u8 x.toNat) = fillRow l n (k + 1) := by
  apply Array.ext_getElem?
  intro i
  rw [Array.getElem?_setIfInBounds]
  simp only [fillRow, byteCells, List.size_toArray, List.getElem?_toArray, List.getElem?_append, List.length_map, List.length_take, List.length_append, List.length_replicate]
  by_cases hik : k = i
  · subst hik
    rw [if_pos rfl, if_pos (by omega), if_pos (by omega), List.take_add_one, hx]
    simp [List.getElem?_append, show min k l.length = k by omega]
  · rw [if_neg hik]
    by_cases hlt : i < k
    · rw [if_pos (by omega), if_pos (by omega)]
      simp [List.getElem?_take, hlt, show i < k + 1 by omega]
    · rw [if_neg (by omega), if_neg (by omega)]
      simp only [List.getElem?_replicate]
      by_cases h2 : i < n
      · rw [if_pos (by omega), if_pos (by omega)]
      · rw [if_neg (by omega), if_neg (by omega)]

theorem run_make_bytes (n : Nat) (hn : n ≤ 2500) (w : World) :
    (Instr.makeSlice 22 (.int .i64 (n : Int)) (.int .i64 (n : Int))).run Tryd.prog w = .ok (.slice (some ⟨w.heap.size, 0, none⟩) n n) (w.alloc (.cells (fillRow [] n 0) 5)) := by
  obtain ⟨i0, hi, hz0, hz1, hz2⟩ := info_parts Tryd.info5
  have hr := run_make (P := Tryd.prog) w 22 5 i0 (.int .u8 0) Tryd.underlying22 hi hz0 .i64 .i64 n n (by omega) (by omega) (by rw [hz2]; omega) (by omega)
  have he : madeCells (Value.int .u8 0).cells ((n : Int).toNat * i0.size) = fillRow [] n 0 := by
    rw [hz1, Nat.mul_one, Int.toNat_natCast]
    apply Array.ext_getElem?
    intro i
    simp only [madeCells, Value.cells, fillRow, byteCells]
    by_cases h : i < n
    · simp [h, Nat.mod_one]
    · simp [h]
  rw [hr, he, Int.toNat_natCast]
theorem fillRow_zero (l : List UInt8) (n : Nat) : fillRow [] n 0 = fillRow l n 0 := by simp [fillRow]
theorem fillRow_full (l : List UInt8) (n : Nat) (h : l.length = n) : fillRow l n n = (byteCells l).toArray := by simp [fillRow, ← h]
theorem Sl.of_row {w : World} {g : Nat} {l : List UInt8} (n : Nat) (hl : l.length = n) (h : w.heap[g]? = some (.cells (fillRow l n n) 5 (0, 0))) : Sl w (.slice (some ⟨g, 0, none⟩) n n) (byteCells l) := by
  rw [fillRow_full l n hl] at h
  refine ⟨_, n, by rw [byteCells_length, hl], by rw [byteCells_length]; omega, fun _ => ⟨g, 0, rfl, lt_of_block h, fun j hj => ?_⟩⟩
  simp only [World.cell?, h, Nat.zero_add]
  simp [hj]
/-- A place of the row that is being filled. -/
theorem fill_cell {w : World} {g n k i : Nat} {l : List UInt8} (hk : k ≤ n) (hl : l.length = n) (h : w.heap[g]? = some (.cells (fillRow l n k) 5 (0, 0))) (hi : i < n) : ∃ v, w.cell? ⟨g, i, none⟩ = some v := by
  have hs := fillRow_size l n k hk hl
  refine ⟨(fillRow l n k)[i]'(by omega), ?_⟩
  simp [World.cell?, h, hs, hi]
theorem fill_set {w : World} {g n k : Nat} {l : List UInt8} {x : UInt8} (hk : k < n) (hl : l.length = n) (h : w.heap[g]? = some (.cells (fillRow l n k) 5 (0, 0))) (hx : l[k]? = some x) :
    (w.setCell ⟨g, k, none⟩ (.int .u8 x.toNat)).heap[g]? = some (.cells (fillRow l n (k + 1)) 5 (0, 0)) := by
  have : (w.setCell ⟨g, k, none⟩ (.int .u8 x.toNat)).heap[g]? = some (.cells ((fillRow l n k).setIfInBounds k (.int .u8 x.toNat)) 5 (0, 0)) := by
    simp [World.setCell, Array.getElem?_modify, h]
  rw [this, fillRow_set l n k x hk hl hx]
theorem free_of_cells {w : World} {g : Nat} {cs : Array Value} {t : TypeId} (h : w.heap[g]? = some (.cells cs t (0, 0))) (i : Nat) : w.frozen? ⟨g, i, none⟩ = false := by simp [World.frozen?, h]

theorem or_fin : ∀ x y : Fin 16, bits .or .i64 (wrap64 ((x.val : Int) * 16)) (y.val : Int) % 256 = ((x.val * 16 + y.val : Nat) : Int) := by decide +kernel
theorem or_nat (x y : Nat) (hx : x < 16) (hy : y < 16) : bits .or .i64 (wrap64 ((x : Int) * 16)) (y : Int) % 256 = (((UInt8.ofNat (x * 16 + y)).toNat : Nat) : Int) := by
  rw [UInt8.toNat_ofNat', Nat.mod_eq_of_lt (by omega)]
  exact or_fin ⟨x, hx⟩ ⟨y, hy⟩
theorem hvI_some {c : UInt8} {x : Nat} (h : hvI c = x) : hv c = some x ∧ x < 16 := by
  unfold hvI at h
  split at h
  · rename_i y hy
    have : y = x := by omega
    subst this
    exact ⟨hy, hv_lt hy⟩
  · omega
set_option maxRecDepth 100000 in
set_option maxHeartbeats 1000000 in
theorem digits_any (s : ByteArray) (w : World) (hs : s.size ≤ 2500) : Calls Tryd.prog 19 #[.string s] w (DigPost w s.data.toList) := by
  have hsz : s.data.toList.length = s.size := Array.length_toList
  have hmk := run_make_bytes (s.size / 2) (by omega)
  rw [show (((s.size / 2 : Nat) : Int)) = (s.size : Int) / 2 by omega] at hmk
  generalize hn : s.size / 2 = n at hmk
  have Hn := hidd hn; clear hn
  go_enter Tryd.func19, Tryd.ntmps19
  go_wp2
  have hlen : (hexPairs s.data.toList).length = n := by rw [hexPairs_length, hsz]; exact Hn.out
  have Hlen := hidd hlen; clear hlen
  have Hsz := hidd hsz; clear hsz
  go_loopw [14] (fun i wr => ∃ k : Nat, k ≤ n ∧ i = .int .i64 k ∧ (s.data.toList.take (2 * k)).all (fun c => (hv c).isSome) = true ∧ wr.heap[w.heap.size]? = some (.cells (fillRow (hexPairs s.data.toList) n k) 5 (0, 0)) ∧ Below w.heap.size w wr) (fun i _ => n - (intOf i).toNat)
  case atStart => exact ⟨0, Nat.zero_le _, rfl, by simp, by rw [fillRow_zero]; exact heap_alloc_new w _, (Below.refl _ _).alloc (Nat.le_refl _) _⟩
  case round =>
    obtain ⟨k, hk, rfl, hall, hrow, hbw⟩ := hrel
    have Hall := hidd hall; clear hall
    by_cases hlt : k < n
    · have hk2 : 2 * k + 1 < s.size := by have := Hn.out; omega
      have ha : s.data.toList[2 * k]? = some s[2 * k] := by rw [Array.getElem?_toList]; exact Array.getElem?_eq_getElem (by show 2 * k < s.size; omega)
      have hb : s.data.toList[2 * k + 1]? = some s[2 * k + 1] := by rw [Array.getElem?_toList]; exact Array.getElem?_eq_getElem (by show 2 * k + 1 < s.size; omega)
      have hx := hexPairs_at _ k _ _ ha hb
      have Ha := hidd ha; have Hb := hidd hb; have Hx := hidd hx; have Hrow := hidd hrow
      clear ha hb hx hrow
      have e1 : IntKind.i64.wrap (2 * (k : Int)) = 2 * (k : Int) := IntWalk.i64_in _ (by omega)
      have e2 : IntKind.i64.wrap (2 * (k : Int) + 1) = 2 * (k : Int) + 1 := IntWalk.i64_in _ (by omega)
      have e3 : (2 * (k : Int)).toNat = 2 * k := by omega
      have e4 : (2 * (k : Int) + 1).toNat = 2 * k + 1 := by omega
      have e5 : 0 ≤ 2 * (k : Int) + 1 := by omega
      have e6 : 2 * (k : Int) < s.size := by omega
      have e7 : 2 * (k : Int) + 1 < s.size := by omega
      have e8 : 0 ≤ 2 * (k : Int) := by omega
      have hbad : hvI s[2 * k] < 0 ∨ hvI s[2 * k + 1] < 0 → hexOk s.data.toList = false := fun h => by
        unfold hexOk
        rw [Bool.and_eq_false_iff]; right
        rw [List.all_eq_false]
        rcases h with h | h
        · refine ⟨_, List.mem_of_getElem? Ha.out, ?_⟩
          unfold hvI at h; split at h
          · omega
          · rename_i hn; simp [hn]
        · refine ⟨_, List.mem_of_getElem? Hb.out, ?_⟩
          unfold hvI at h; split at h
          · omega
          · rename_i hn; simp [hn]
      have Hbad := hidd hbad; clear hbad
      by_cases ha : hvI s[2 * k] < 0
      · go_wp2_with (fail)
        go_quiet ((go_at_call 33; exact Calls.quiet_of_same (hexd_any _ _)))
        clear e1 e2
        go_wp2_with (fail)
        go_ret2
        exact ⟨_, false, rfl, (Hbad.out (.inl ha)).symm, fun h => (Bool.false_ne_true h).elim, ⟨_, _, _, rfl, fun a ha => by cases ha⟩, blw_drewN hbw _⟩
      · by_cases hb : hvI s[2 * k + 1] < 0
        · go_wp2_with (fail)
          go_quiet ((go_at_call 33; exact Calls.quiet_of_same (hexd_any _ _)))
          clear e1 e2
          go_wp2_with (fail)
          go_ret2
          exact ⟨_, false, rfl, (Hbad.out (.inr hb)).symm, fun h => (Bool.false_ne_true h).elim, ⟨_, _, _, rfl, fun a ha => by cases ha⟩, blw_drewN hbw _⟩
        · obtain ⟨x, hxa⟩ : ∃ x : Nat, hvI s[2 * k] = x := ⟨(hvI s[2 * k]).toNat, by omega⟩
          obtain ⟨v0, hv0⟩ := fill_cell hk Hlen.out Hrow.out hlt
          obtain ⟨y, hyb⟩ : ∃ y : Nat, hvI s[2 * k + 1] = y := ⟨(hvI s[2 * k + 1]).toNat, by omega⟩
          have hf0 := free_of_cells Hrow.out k
          have hset : ∀ m, (((wr.drewN m).setCell ⟨w.heap.size, k, none⟩ (.int .u8 (bits BinOp.or IntKind.i64 (wrap64 ((x : Int) * 16)) (y : Int) % 256)))).heap[w.heap.size]? = some (.cells (fillRow (hexPairs s.data.toList) n (k + 1)) 5 (0, 0)) := fun m => by
            obtain ⟨hx, hxl⟩ := hvI_some hxa
            obtain ⟨hy, hyl⟩ := hvI_some hyb
            rw [or_nat x y hxl hyl]
            have hxx := Hx.out
            rw [hx, hy] at hxx
            exact fill_set (w := wr.drewN m) hlt Hlen.out Hrow.out hxx
          have hnew : (s.data.toList.take (2 * (k + 1))).all (fun c => (hv c).isSome) = true := by
            rw [show 2 * (k + 1) = 2 * k + 1 + 1 by omega, List.take_add_one, Hb.out, List.take_add_one, Ha.out]
            simp only [List.all_append, Hall.out, Option.toList, List.all_cons, List.all_nil, (hvI_some hxa).1, (hvI_some hyb).1]
            rfl
          have Hset := hidd hset; have Hnew := hidd hnew; have Hxa := hidd hxa; have Hyb := hidd hyb
          clear hset hnew
          go_wp2_with (fail)
          go_quiet ((go_at_call 33; exact Calls.quiet_of_same (hexd_any _ _)))
          clear e1 e2
          go_wp2_with (fail)
          go_roundw
          case rel => exact ⟨k + 1, by omega, by go_num, Hnew.out, Hset.out _, (blw_drewN hbw _).setCell (Nat.le_refl _) _⟩
          case measure => simp [intOf]; omega
    · obtain rfl : k = n := by omega
      go_wp2_with (fail)
      go_ret2
      refine ⟨_, _, rfl, ?_, fun _ => Sl.of_row k Hlen.out hrow, ⟨_, _, _, rfl, fun a ha => by injection ha with ha; subst ha; exact Nat.le_refl _⟩, hbw⟩
      unfold hexOk
      rw [Hsz.out]
      by_cases h2 : s.size % 2 = 0
      · have hall := Hall.out
        rw [List.take_of_length_le (by rw [Hsz.out]; have := Hn.out; omega)] at hall
        rw [hall, Bool.and_true, Bool.eq_iff_iff]
        simp; omega
      · have h3 : (s.size % 2 == 0) = false := by simpa using h2
        rw [h3, Bool.false_and]
        simp; omega
end Go.Proofs.YtojmimpaecpiaaaDoor
