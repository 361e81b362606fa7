/- number; the reader's closures. -/
import Derived.Test.YtojmimpaecpiaaaDoorEnv
namespace Go.Proofs.YtojmimpaecpiaaaDoor
open Go.RowKit

/-- What 'number' answers: a number, and whether the word is one. -/
def NumPost (w : World) (l : List UInt8) (e : Ending) (w' : World) : Prop :=
  ∃ (v : Int) (b : Bool), e = .returned (.tuple #[.int .i64 v, .bool b]) ∧ b = (numF l).isSome ∧ (∀ n, numF l = some n → v = n) ∧ Below w.heap.size w w'

theorem below_bytes (w : World) (t : ByteArray) : Below w.heap.size w (Lib.bytesWorld w 5 t) := by
  refine ⟨?_, ?_, ?_, ?_, ?_⟩
  · unfold Lib.bytesWorld World.freeze; split <;> rfl
  · unfold Lib.bytesWorld World.freeze; split <;> rfl
  · unfold Lib.bytesWorld World.freeze; split <;> rfl
  · rw [Lib.bytesWorld_size]; omega
  · exact fun k hk => Lib.bytesWorld_at_old w 5 t k hk

/-- Atoi, all its ends under one contract. -/
theorem atoi_any (s : ByteArray) (w : World) (hE : Env w) (hs : s.size ≤ 2500) :
    Calls Tryd.prog 39 #[.string s] w fun e w' => ∃ (v : Int) (er : Value), e = .returned (.tuple #[.int .i64 v, er]) ∧ Below w.heap.size w w' ∧
      ((Lib.atoiAll s.data.toList = .ok v ∧ er = .nilIface) ∨ ((∀ v, Lib.atoiAll s.data.toList ≠ .ok v) ∧ ∃ p, er = .iface 105 p)) := by
  match h : Lib.atoiAll s.data.toList with
  | Lib.NumEnd.ok v =>
    refine (Tryd.strconv_Atoi_ok s (by omega) v h w).mono fun e w' ⟨he, hw⟩ => ⟨v, _, he, ?_, .inl ⟨rfl, rfl⟩⟩
    rcases hw with rfl | ⟨t, rfl⟩
    · exact Below.refl _ _
    · exact below_bytes w t
  | Lib.NumEnd.syntax =>
    obtain ⟨tp, p, hv⟩ := hE.syn
    exact (Tryd.strconv_Atoi_syntax_var s (by omega) h tp p w hv).mono fun e w' ⟨N, he, _, _, hb⟩ => ⟨_, _, he, hb, .inr ⟨(fun v hv => by cases hv), _, rfl⟩⟩
  | Lib.NumEnd.range =>
    obtain ⟨tp, p, hv⟩ := hE.ran
    exact (Tryd.strconv_Atoi_range_var s (by omega) h tp p w hv).mono fun e w' ⟨N, he, _, _, hb⟩ => ⟨_, _, he, hb, .inr ⟨(fun v hv => by cases hv), _, rfl⟩⟩

theorem itoa_any (n : Int) (h0 : 0 ≤ n) (h1 : n ≤ 1073741824) (w : World) (hE : Env w) :
    Calls Tryd.prog 10 #[.int .i64 n] w fun e w' => e = .returned (.string ⟨(Lib.itoa n).toArray⟩) ∧ Below w.heap.size w w' :=
  (Tryd.strconv_Itoa n (by omega) (by omega) w hE.pow).mono fun e w' ⟨he, k, os, hw⟩ => ⟨he, by subst hw; exact below_grow' w k os⟩

theorem toList_data (s : ByteArray) : s.toList = s.data.toList := ByteArray.toList_eq s
set_option maxHeartbeats 1000000 in
theorem number_any (s : ByteArray) (w : World) (hE : Env w) (hs : s.size ≤ 2500) : Calls Tryd.prog 30 #[.string s] w (NumPost w s.data.toList) := by
  go_enter Tryd.func30, Tryd.ntmps30
  go_wp2_with (go_at_call 39; refine (atoi_any s w hE hs).mono ?_)
  rintro e w1 ⟨v, er, rfl, hb, hcase⟩
  rcases hcase with ⟨hok, rfl⟩ | ⟨hno, p, rfl⟩
  · have Hok := hidd hok; clear hok
    by_cases h0 : 0 ≤ v
    · by_cases h1 : v ≤ 1073741824
      · have hE1 := hE.below hb
        go_wp2_with (go_at_call 10; refine (itoa_any v h0 h1 w1 hE1).mono ?_; rintro e w2 ⟨rfl, hb2⟩)
        go_ret2
        have hF : numF s.data.toList = if Lib.itoa v = s.data.toList then some v.toNat else none := by
          unfold numF; rw [Hok.out]; simp only; by_cases hq : Lib.itoa v = s.data.toList
          · rw [if_pos ⟨h0, h1, hq⟩, if_pos hq]
          · rw [if_neg (fun h => hq h.2.2), if_neg hq]
        refine ⟨v, _, rfl, ?_, ?_, hb.trans (hb2.mono hb.size)⟩
        · rw [hF, toList_data]; by_cases hq : Lib.itoa v = s.data.toList
          · simp [hq]
          · rw [if_neg hq]; simpa using hq
        · intro n hn; rw [hF] at hn; split at hn
          · injection hn with hn; omega
          · cases hn
      · have hF : numF s.data.toList = none := by unfold numF; rw [Hok.out]; simp only; rw [if_neg (fun h => h1 h.2.1)]
        have HF := hidd hF; clear hF
        go_wp2
        go_ret2
        exact ⟨v, _, rfl, by rw [HF.out]; rfl, fun n hn => (by rw [HF.out] at hn; cases hn), hb⟩
    · have hF : numF s.data.toList = none := by unfold numF; rw [Hok.out]; simp only; rw [if_neg (fun h => h0 h.1)]
      have HF := hidd hF; clear hF
      go_wp2
      go_ret2
      exact ⟨v, _, rfl, by rw [HF.out]; rfl, fun n hn => (by rw [HF.out] at hn; cases hn), hb⟩
  · have hF : numF s.data.toList = none := by
      unfold numF
      match h : Lib.atoiAll s.data.toList with
      | Lib.NumEnd.ok u => exact absurd h (hno u)
      | Lib.NumEnd.syntax => rfl
      | Lib.NumEnd.range => rfl
    have HF := hidd hF; clear hF hno
    go_wp2
    go_ret2
    exact ⟨v, _, rfl, by rw [HF.out]; rfl, fun n hn => (by rw [HF.out] at hn; cases hn), hb⟩
/-- The reader's two variables: whether all is well (gk), and the words that are left (gx). -/
structure Rd (gk gx : Nat) (w : World) (ok : Bool) (v : Value) : Prop where
  k : w.heap[gk]? = some (.cells #[.bool ok] 4 (0, 0))
  x : w.heap[gx]? = some (.cells #[v] 39 (0, 0))
theorem Rd.ne {gk gx : Nat} {w : World} {ok : Bool} {v : Value} (h : Rd gk gx w ok v) : gk ≠ gx := by
  rintro rfl; have := h.k.symm.trans h.x; injection this with this; injection this with _ h4; cases h4

set_option maxHeartbeats 1000000 in
theorem next_out (gk gx : Nat) (w : World) (ok : Bool) (A : Option Addr) (n c : Nat) (h : Rd gk gx w ok (.slice A n c)) (hno : ok = false ∨ n = 0) :
    Calls Tryd.prog 29 #[.pointer (some ⟨gk, 0, none⟩), .pointer (some ⟨gx, 0, none⟩)] w fun e w' => e = .returned (.int .i64 0) ∧ Rd gk gx w' false (.slice A n c) ∧ Fr (fun k => k = gk) w w' := by
  have c1 := cell_of_one h.k
  have c2 := cell_of_one h.x
  have f1 := free_of_one h.k
  have hn := h.ne
  have fin : Rd gk gx (w.setCell ⟨gk, 0, none⟩ (.bool false)) false (.slice A n c) := ⟨one_setCell h.k, (Below.heap_setCell w _ _ gx (fun e => hn e.symm)).trans h.x⟩
  have fin2 : Fr (fun k => k = gk) w (w.setCell ⟨gk, 0, none⟩ (.bool false)) := (Fr.refl (fun k => k = gk) w).setCell (.inl rfl) _
  cases ok with
  | false =>
    go_enter Tryd.func29, Tryd.ntmps29
    go_wp2
    go_ret
    exact ⟨rfl, fin, fin2⟩
  | true =>
    have : n = 0 := by simpa using hno
    subst this
    go_enter Tryd.func29, Tryd.ntmps29
    go_wp2
    go_ret
    exact ⟨rfl, fin, fin2⟩

/-- What 'next' leaves where a word is left. -/
def NextPost (gk gx B o n c : Nat) (l : List UInt8) (w : World) (e : Ending) (w' : World) : Prop :=
  ∃ (v : Int) (b : Bool), e = .returned (.int .i64 v) ∧ b = (numF l).isSome ∧ (∀ n, numF l = some n → v = n) ∧
      Rd gk gx w' b (.slice (some ⟨B, if c = 1 then o else o + 1, none⟩) n (c - 1)) ∧ Fr (fun k => k = gk ∨ k = gx) w w'
set_option maxHeartbeats 1000000 in
theorem next_in (gk gx B o n c : Nat) (s : ByteArray) (w : World) (hE : Env w) (hs : s.size ≤ 2500) (h : Rd gk gx w true (.slice (some ⟨B, o, none⟩) (n + 1) c)) (hc : n + 1 ≤ c) (hB : B < w.heap.size) (hBk : B ≠ gk) (hBx : B ≠ gx)
    (h8 : 8 ≤ gk) (h8x : 8 ≤ gx) (hcell : w.cell? ⟨B, o, none⟩ = some (.string s)) (hn63 : c ≤ 9223372036854775807) :
    Calls Tryd.prog 29 #[.pointer (some ⟨gk, 0, none⟩), .pointer (some ⟨gx, 0, none⟩)] w (NextPost gk gx B o n c s.data.toList w) := by
  have c1 := cell_of_one h.k
  have c2 := cell_of_one h.x
  have hne := h.ne
  have hlk := lt_of_block h.k
  have hlx := lt_of_block h.x
  go_enter Tryd.func29, Tryd.ntmps29
  go_wp2_with (go_at_call 30; refine (number_any s w hE hs).mono ?_)
  rintro e w1 ⟨v, b, rfl, hb, hv, hbw⟩
  have hR : Rd gk gx w1 true (.slice (some ⟨B, o, none⟩) (n + 1) c) := ⟨(hbw.block gk hlk).trans h.k, (hbw.block gx hlx).trans h.x⟩
  have d1 := cell_of_one hR.k
  have d2 := cell_of_one hR.x
  have f1 := free_of_one hR.k
  have f2 := free_of_one hR.x
  have Hb := hidd hb; clear hb
  have fin : ∀ v' : Value, Rd gk gx ((w1.setCell ⟨gx, 0, none⟩ v').setCell ⟨gk, 0, none⟩ (.bool b)) b v' := fun v' =>
    ⟨one_setCell ((Below.heap_setCell w1 _ _ gk hne).trans hR.k), (Below.heap_setCell _ _ _ gx (fun e => hne e.symm)).trans (one_setCell hR.x)⟩
  have fin2 : ∀ v' : Value, Fr (fun k => k = gk ∨ k = gx) w ((w1.setCell ⟨gx, 0, none⟩ v').setCell ⟨gk, 0, none⟩ (.bool b)) := fun v' =>
    ((Fr.below hbw).setCell (.inl (.inr rfl)) _).setCell (.inl (.inl rfl)) _
  by_cases h1 : c = 1
  · subst h1; obtain rfl : n = 0 := by omega
    go_wp2
    go_ret
    exact ⟨v, b, rfl, Hb.out, hv, fin _, fin2 _⟩
  · go_wp2
    go_ret
    exact ⟨v, b, rfl, Hb.out, hv, by rw [if_neg h1]; exact fin _, fin2 _⟩
end Go.Proofs.YtojmimpaecpiaaaDoor
