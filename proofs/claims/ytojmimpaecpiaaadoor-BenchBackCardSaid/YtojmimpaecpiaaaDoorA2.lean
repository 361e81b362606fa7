/- SameBytes, SameBools. -/
import Derived.Test.YtojmimpaecpiaaaDoorBase
namespace Go.Proofs.YtojmimpaecpiaaaDoor
open Go.RowKit

set_option maxHeartbeats 400000 in
theorem sameBools_len (A B : Option Addr) (n m c d : Nat) (h : n ≠ m) (w : World) :
    Calls Tryd.prog 15 #[.slice A n c, .slice B m d] w fun e w' => e = .returned (.bool false) ∧ w = w' := by
  have h0 : ((n : Int) == m) = false := by simp; omega
  have h1 : ((n : Int) != m) = true := by simp; omega
  go_enter Tryd.func15, Tryd.ntmps15
  go_wp2
  go_ret
  exact ⟨rfl, rfl⟩
set_option maxHeartbeats 400000 in
theorem sameBools_eq (xs ys : List Bool) (b o c b' o' c' n : Nat) (hx : xs.length = n) (hy : ys.length = n) (hn : n ≤ 9223372036854775807) (w : World)
    (h : ∀ (j : Nat) (u : Bool), xs[j]? = some u → w.cell? ⟨b, o + j, none⟩ = some (.bool u)) (h' : ∀ (j : Nat) (u : Bool), ys[j]? = some u → w.cell? ⟨b', o' + j, none⟩ = some (.bool u)) :
    Calls Tryd.prog 15 #[.slice (some ⟨b, o, none⟩) n c, .slice (some ⟨b', o', none⟩) n c'] w fun e w' => e = .returned (.bool (xs == ys)) ∧ ∃ k, w' = w.drewN k := by
  go_enter Tryd.func15, Tryd.ntmps15
  go_wp2
  go_loopw [5] (fun i wr => ∃ k q : Nat, k ≤ n ∧ i = .int .i64 k ∧ xs.take k = ys.take k ∧ wr = w.drewN q) (fun i _ => n - (intOf i).toNat)
  case atStart => exact ⟨0, 0, Nat.zero_le _, rfl, by simp, rfl⟩
  case round =>
    obtain ⟨k, q, hk, rfl, ht, rfl⟩ := hrel
    by_cases hlt : k < n
    · obtain ⟨u, hu⟩ : ∃ u, xs[k]? = some u := ⟨_, List.getElem?_eq_getElem (by omega)⟩
      obtain ⟨u', hu'⟩ : ∃ u, ys[k]? = some u := ⟨_, List.getElem?_eq_getElem (by omega)⟩
      have g := h k u hu
      have g' := h' k u' hu'
      clear h h'
      by_cases hne : u = u'
      · subst hne
        go_wp2
        go_quiet (fail)
        go_wp2
        go_round
        case rel => exact ⟨k + 1, _, by omega, by go_num, by rw [List.take_add_one, List.take_add_one, ht, hu, hu'], rfl⟩
        case measure => simp [intOf]; omega
      · have hne2 : (u == u') = false := by simpa using hne
        have hx2 : (xs == ys) = false := by
          rw [beq_eq_false_iff_ne]; rintro rfl; rw [hu] at hu'; exact hne (Option.some.inj hu')
        have H := hidd hx2; clear hx2
        go_wp2
        go_quiet (fail)
        go_wp2
        go_ret
        exact ⟨by rw [H.out]; rfl, _, World.drewN_drewN _ _ _⟩
    · have hxy : xs = ys := by rw [← List.take_of_length_le (show xs.length ≤ k by omega), ht, List.take_of_length_le (by omega)]
      subst hxy
      go_wp2
      go_ret
      exact ⟨by simp, _, rfl⟩
/-- SameBools says whether two lists of bools are one. -/
theorem sameBools_any (xs ys : List Bool) (v v' : Value) (w : World) (hx : Sl w v (xs.map .bool)) (hy : Sl w v' (ys.map .bool)) (hn : xs.length ≤ 9223372036854775807) :
    Calls Tryd.prog 15 #[v, v'] w fun e w' => e = .returned (.bool (xs == ys)) ∧ ∃ k, w' = w.drewN k := by
  by_cases hl : xs.length = ys.length
  · rcases hx.cases with ⟨he, A, c, rfl⟩ | ⟨hpos, b, o, c, rfl, _, _, hcell⟩
    · have hx0 : xs = [] := by simpa using he
      subst hx0
      have hy0 : ys = [] := List.eq_nil_of_length_eq_zero hl.symm
      subst hy0
      obtain ⟨B, d, hv', _, _⟩ := hy
      subst hv'
      go_enter Tryd.func15, Tryd.ntmps15
      go_wp2
      go_loopw [5] (fun i wr => i = .int .i64 0 ∧ wr = w) (fun _ _ => 0)
      case atStart => exact ⟨rfl, rfl⟩
      case round =>
        obtain ⟨rfl, rfl⟩ := hrel
        go_wp2
        go_ret
        exact ⟨by simp, 0, rfl⟩
    · rcases hy.cases with ⟨he, A, c', rfl⟩ | ⟨_, b', o', c', rfl, _, _, hcell'⟩
      · exfalso; rw [List.map_eq_nil_iff] at he; subst he; simp at hl; subst hl; simp at hpos
      · simp only [List.length_map] at *
        rw [← hl]
        refine sameBools_eq xs ys b o c b' o' c' xs.length rfl hl.symm hn w (fun j u hu => ?_) (fun j u hu => ?_)
        · obtain ⟨hj, rfl⟩ := List.getElem?_eq_some_iff.1 hu
          simpa using hcell j hj
        · obtain ⟨hj, rfl⟩ := List.getElem?_eq_some_iff.1 hu
          simpa using hcell' j hj
  · obtain ⟨A, c, rfl, _, _⟩ := hx
    obtain ⟨B, d, rfl, _, _⟩ := hy
    refine (sameBools_len A B _ _ c d (by simpa using hl) w).mono fun e w' h => ⟨?_, 0, ?_⟩
    · have : (xs == ys) = false := by rw [beq_eq_false_iff_ne]; rintro rfl; exact hl rfl
      rw [this]; exact h.1
    · exact h.2.symm
set_option maxHeartbeats 400000 in
/-- SameBytes says whether two lists of bytes are one. -/
theorem sameBytes_any (xs ys : List UInt8) (v v' : Value) (w : World) (hx : Sl w v (byteCells xs)) (hy : Sl w v' (byteCells ys)) :
    Calls Tryd.prog 14 #[v, v'] w fun e w' => e = .returned (.bool (xs == ys)) ∧ w = w' := by
  have c1 := hx.string
  have c2 := hy.string
  go_enter Tryd.func14, Tryd.ntmps14
  go_wp2
  go_ret
  exact ⟨by simp, rfl⟩
end Go.Proofs.YtojmimpaecpiaaaDoor
