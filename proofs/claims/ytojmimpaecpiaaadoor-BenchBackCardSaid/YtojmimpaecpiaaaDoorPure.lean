/- Plain facts on numerals: what Itoa writes Atoi reads. No program in sight. -/
import Derived.Lib.AtoiAll
import Derived.Lib.ItoaNum
namespace Go.Proofs.YtojmimpaecpiaaaDoor
open Go

/-- The number of a word: what 'number' tells. -/
def numF (l : List UInt8) : Option Nat :=
  match Lib.atoiAll l with
  | .ok v => if 0 ≤ v ∧ v ≤ 1073741824 ∧ Lib.itoa v = l then some v.toNat else none
  | _ => none

theorem numF_some {l : List UInt8} {n : Nat} (h : numF l = some n) : n ≤ 1073741824 ∧ l = Lib.itoa n := by
  unfold numF at h
  split at h
  · split at h
    · rename_i v _ hv
      injection h with h
      subst h
      exact ⟨by omega, by rw [show ((v.toNat : Nat) : Int) = v by omega]; exact hv.2.2.symm⟩
    · cases h
  · cases h

theorem dig_toNat (d : Nat) (h : d < 10) : (UInt8.ofNat (48 + d)).toNat = 48 + d := by
  rw [UInt8.toNat_ofNat']; omega

theorem parse_snoc (c : UInt8) (d : Nat) (hd : d < 10) (hc : c.toNat = 48 + d) : ∀ (l : List UInt8) (a u : Nat), Lib.parseUint10 a l = .ok u → u < 1844674407370955161 → Lib.parseUint10 a (l ++ [c]) = .ok (u * 10 + d)
  | [], a, u, h, hu => by
    simp only [Lib.parseUint10] at h
    injection h with h
    subst h
    simp only [List.nil_append, Lib.parseUint10]
    rw [if_pos ⟨by omega, by omega⟩, if_neg (by omega), if_neg (by omega)]
    congr 1; omega
  | x :: r, a, u, h, hu => by
    simp only [Lib.parseUint10, List.cons_append] at h ⊢
    split at h
    · rename_i hx
      rw [if_pos hx]
      split at h
      · cases h
      · rename_i h1
        rw [if_neg h1]
        split at h
        · cases h
        · rename_i h2
          rw [if_neg h2]
          exact parse_snoc c d hd hc r _ u h hu
    · cases h

theorem parse_dec : ∀ (n : Nat), n ≤ 1073741824 → Lib.parseUint10 0 (Lib.decDigits n) = .ok n := by
  intro n
  induction n using Nat.strongRecOn with
  | ind n ih =>
    intro hn
    by_cases h : n < 10
    · rw [Lib.decDigits_one h]
      have := dig_toNat n h
      simp only [Lib.parseUint10]
      rw [if_pos ⟨by omega, by omega⟩, if_neg (by omega), if_neg (by omega)]
      congr 1; omega
    · rw [Lib.decDigits, dif_neg h]
      rw [parse_snoc _ (n % 10) (by omega) (dig_toNat _ (by omega)) _ 0 (n / 10) (ih (n / 10) (by omega) (by omega)) (by omega)]
      congr 1; omega

theorem dec_digits : ∀ (n : Nat), ∀ c ∈ Lib.decDigits n, 48 ≤ c.toNat ∧ c.toNat ≤ 57 := by
  intro n
  induction n using Nat.strongRecOn with
  | ind n ih =>
    intro c hc
    by_cases h : n < 10
    · rw [Lib.decDigits_one h] at hc
      simp only [List.mem_singleton] at hc
      subst hc
      rw [dig_toNat n h]; omega
    · rw [Lib.decDigits, dif_neg h] at hc
      rcases List.mem_append.1 hc with hc | hc
      · exact ih (n / 10) (by omega) c hc
      · simp only [List.mem_singleton] at hc
        subst hc
        rw [dig_toNat _ (by omega)]; omega
theorem dec_ne (n : Nat) : Lib.decDigits n ≠ [] := by
  intro h
  have := Lib.decDigits_length n
  have := Lib.nDigits_pos n
  rw [h] at *
  simp at *
  omega
theorem itoa_nat (n : Nat) : Lib.itoa n = Lib.decDigits n := by unfold Lib.itoa; rw [if_neg (by omega)]; rfl

theorem numF_itoa (n : Nat) (hn : n ≤ 1073741824) : numF (Lib.itoa n) = some n := by
  have hi := itoa_nat n
  obtain ⟨c, r, hcr⟩ : ∃ c r, Lib.decDigits n = c :: r := List.exists_cons_of_ne_nil (dec_ne n)
  have hc := dec_digits n c (by rw [hcr]; exact List.mem_cons_self)
  have hp := parse_dec n hn
  have ha : Lib.atoiAll (Lib.itoa n) = .ok (n : Int) := by
    rw [hi, hcr]
    rw [hcr] at hp
    unfold Lib.atoiAll Lib.parseMag
    simp only
    rw [if_neg (show ¬ (c.toNat = 43 ∨ c.toNat = 45) by omega), if_neg (by simp), hp]
    simp only
    rw [if_neg (by omega), if_neg (by omega), if_neg (by omega)]
  unfold numF
  rw [ha]
  simp only
  rw [if_pos (by refine ⟨by omega, by omega, ?_⟩; first | trivial | rfl)]
  simp
end Go.Proofs.YtojmimpaecpiaaaDoor
