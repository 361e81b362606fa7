/- What Parse reads, Text writes. No walk. -/
import Derived.Test.YtojmimpaecpiaaaDoorD1
namespace Go.Proofs.YtojmimpaecpiaaaDoor
open Go.RowKit

theorem endF_inv {rest : UInt8} {x y : Dd} {l : List ByteArray} (hne : ∀ p ∈ l, p.data.toList ≠ []) (hx1 : x.body = []) (hx2 : x.keeps = []) (h : endF rest x l = some y) :
    (l = [] ∧ y = x) ∨ (rest = 98 ∧ ∃ b, b ≠ [] ∧ y = { x with body := b } ∧ l.map (·.data.toList) = [hexF b]) ∨ (rest = 107 ∧ ∃ b, b ≠ [] ∧ y = { x with keeps := b } ∧ l.map (·.data.toList) = [marksF b]) := by
  match l, h with
  | [], h => simp [endF] at h; exact .inl ⟨rfl, h.symm⟩
  | [r], h =>
    have hr := hne r List.mem_cons_self
    simp only [endF] at h
    split at h
    · rename_i hr98
      split at h
      · rename_i hok
        injection h with h
        have hb := hexPairs_back _ hok
        refine .inr (.inl ⟨hr98, hexPairs r.data.toList, ?_, h.symm, by simp [hb]⟩)
        intro e; rw [e] at hb; exact hr hb.symm
      · cases h
    · split at h
      · rename_i hr107
        split at h
        · rename_i hok
          injection h with h
          have hb := bits_back _ hok
          refine .inr (.inr ⟨hr107, bitsF r.data.toList, ?_, h.symm, by simp [hb]⟩)
          intro e; rw [e] at hb; exact hr hb.symm
        · cases h
      · cases h
  | a :: b :: r, h => simp [endF] at h

theorem hexF_len (b : List UInt8) : (hexF b).length = 2 * b.length := hexF_length b
/-- The last words fit. -/
theorem word_le (ws : List (List UInt8)) (w : List UInt8) (h : w ∈ ws) : w.length ≤ Lib.lens ws := by
  induction ws with
  | nil => cases h
  | cons a r ih =>
    simp only [Lib.lens, List.map_cons, List.sum_cons] at *
    rcases List.mem_cons.1 h with rfl | h
    · omega
    · have := ih h; omega

set_option maxHeartbeats 2000000 in
theorem text_parse (s : ByteArray) (y : Dd) (h : parseF s = .ok y) : textF y = .ok s.data.toList ∧ y.mask ≤ 255 ∧ y.body.length ≤ 1200 ∧ y.keeps.length ≤ 2500 := by
  unfold parseF at h
  split at h
  · cases h
  rename_i hsz
  split at h
  · cases h
  rename_i hnw
  split at h
  · cases h
  rename_i f hf
  split at h
  · cases h
  rename_i x l htk
  split at h
  · cases h
  rename_i y' hend
  injection h with h
  subst h
  have hnw' : noWords s = false := by simpa using hnw
  obtain ⟨p0, ps, hps⟩ := pieces_ne s
  have hj := pieces_join s
  have hne : ∀ p ∈ p0 :: ps, p.data.toList ≠ [] := fun p hp => piece_ne hnw' (by rw [hps]; exact hp)
  rw [hps] at hf htk hj
  simp only [List.headD_cons, List.tail_cons] at hf htk
  obtain ⟨hfm, hfw⟩ := formOf_inv hf
  have hlen : s.data.toList.length ≤ 2200 := by rw [Array.length_toList]; exact Nat.le_of_not_lt hsz
  -- the line is the words' join
  suffices hw : formFor y'.kind y'.is = some f ∧ (f.fields.all (fun c => numOk (getF c y')) && (f.fields.foldl clrF (left0 y')).bare && restOk f y') = true ∧ wordsOf f y' = (p0 :: ps).map (·.data.toList) ∧ y'.mask ≤ 255 by
    obtain ⟨h1, h2, h3, h4⟩ := hw
    rw [← h3] at hj
    have hjl : (Lib.join (wordsOf f y') [32]).length ≤ 2200 := by rw [hj]; exact hlen
    refine ⟨?_, h4, ?_, ?_⟩
    · unfold textF
      rw [h1]
      simp only
      rw [if_pos h2, if_neg (by omega), hj]
    · by_cases hb : y'.body = []
      · rw [hb]; simp
      · have : hexF y'.body ∈ wordsOf f y' := by
          simp only [Bool.and_eq_true, restOk, Bool.or_eq_true, beq_iff_eq, List.isEmpty_iff] at h2
          have h98 : f.rest = 98 := by rcases h2.2.1 with h | h; exact absurd h hb; exact h
          simp [wordsOf, restOf, h98, hb]
        have := word_le _ _ this
        rw [hexF_len] at this
        rw [wordsOf, List.cons_append] at hjl this
        rw [Lib.join_length] at hjl
        simp only [List.length_cons, List.length_nil] at hjl
        omega
    · by_cases hb : y'.keeps = []
      · rw [hb]; simp
      · have : marksF y'.keeps ∈ wordsOf f y' := by
          simp only [Bool.and_eq_true, restOk, Bool.or_eq_true, beq_iff_eq, List.isEmpty_iff] at h2
          have h98 : f.rest = 107 := by rcases h2.2.2 with h | h; exact absurd h hb; exact h
          simp [wordsOf, restOf, h98, hb]
        have := word_le _ _ this
        rw [marksF, List.length_map] at this
        rw [wordsOf, List.cons_append] at hjl
        rw [Lib.join_length] at hjl
        rw [wordsOf, List.cons_append] at this
        simp only [List.length_cons, List.length_nil, marksF] at hjl this
        omega
  have hff := formFor_mem f hfm
  rw [List.map_cons, ← hfw]
  clear hf hj hfw hsz hnw hnw' hps hlen
  simp only [formsL, List.mem_cons, List.not_mem_nil, or_false] at hfm
  rcases hfm with rfl | rfl | rfl | rfl | rfl | rfl | rfl | rfl | rfl | rfl | rfl | rfl | rfl | rfl | rfl
  all_goals
    simp only at htk hend hff
    try (obtain ⟨p1, l1, n1, rfl, e1, b1, m1, htk⟩ := takeF_cons htk)
    try (obtain ⟨p2, l2, n2, rfl, e2, b2, m2, htk⟩ := takeF_cons htk)
    try (obtain ⟨p3, l3, n3, rfl, e3, b3, m3, htk⟩ := takeF_cons htk)
    try (obtain ⟨p4, l4, n4, rfl, e4, b4, m4, htk⟩ := takeF_cons htk)
    simp only [takeF, Option.some.injEq, Prod.mk.injEq] at htk
    obtain ⟨rfl, rfl⟩ := htk
    rcases endF_inv (fun p hp => hne p (by simp [hp])) rfl rfl hend with ⟨rfl, rfl⟩ | ⟨hr, b, hb, rfl, hl⟩ | ⟨hr, b, hb, rfl, hl⟩
  all_goals first
    | (exfalso; revert hr; decide)
    | (refine ⟨hff, ?_, ?_, ?_⟩
       · simp [numOk, getF, setF, zeroD, restOk, left0, clrF, Dd.bare] <;> omega
       · simp [wordsOf, restOf, getF, setF, zeroD, *]
       · first | exact m4 rfl | (simp [setF, zeroD] <;> omega))
end Go.Proofs.YtojmimpaecpiaaaDoor
