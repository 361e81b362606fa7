/- Words and lines: what is joined is cut into the same words. No walk. -/
import Derived.Test.YtojmimpaecpiaaaDoorC0
namespace Go.Proofs.YtojmimpaecpiaaaDoor
open Go.RowKit

def NoSp (l : List UInt8) : Prop := ∀ c ∈ l, c ≠ 32
theorem idx32 : ∀ l : List UInt8, (Lib.index l [32] = -1 ∧ NoSp l) ∨ ∃ i : Nat, Lib.index l [32] = i ∧ i < l.length ∧ l = l.take i ++ 32 :: l.drop (i + 1) ∧ NoSp (l.take i)
  | [] => .inl ⟨by simp [Lib.index], by intro c hc; cases hc⟩
  | b :: l => by
    by_cases h : b = 32
    · subst h
      exact .inr ⟨0, by rw [Lib.index]; simp [List.isPrefixOf], by simp, by simp, by intro c hc; simp at hc⟩
    · have hp : ([32] : List UInt8).isPrefixOf (b :: l) = false := by simp [List.isPrefixOf, Ne.symm h]
      have hix : Lib.index (b :: l) [32] = if Lib.index l [32] == -1 then -1 else Lib.index l [32] + 1 := by rw [Lib.index, hp]; simp
      rcases idx32 l with ⟨h1, h2⟩ | ⟨i, h1, h2, h3, h4⟩
      · refine .inl ⟨by rw [hix, h1]; rfl, ?_⟩
        intro c hc
        rcases List.mem_cons.1 hc with rfl | hc
        · exact h
        · exact h2 c hc
      · refine .inr ⟨i + 1, ?_, by simp; omega, ?_, ?_⟩
        · rw [hix, h1]
          have : ((i : Int) == -1) = false := by rw [beq_eq_false_iff_ne]; omega
          simp [this]
        · simp only [List.take_succ_cons, List.drop_succ_cons, List.cons_append]; rw [← h3]
        · intro c hc
          simp only [List.take_succ_cons, List.mem_cons] at hc
          rcases hc with rfl | hc
          · exact h
          · exact h4 c hc
theorem join_two (x y : List UInt8) (r : List (List UInt8)) : Lib.join (x :: y :: r) [32] = x ++ 32 :: Lib.join (y :: r) [32] := by
  rw [Lib.join_cons, Lib.join_cons, Lib.joinTail]; simp [Lib.joinTail]
theorem split_ne (k : Nat) (s : ByteArray) : ∃ a r, Lib.splitB ⟨#[32]⟩ 0 k s = a :: r := by
  cases k with
  | zero => exact ⟨_, _, rfl⟩
  | succ k => unfold Lib.splitB; split <;> exact ⟨_, _, rfl⟩
theorem split_ok : ∀ (k : Nat) (s : ByteArray), Lib.countB s ⟨#[32]⟩ = k → Lib.join ((Lib.splitB ⟨#[32]⟩ 0 k s).map (·.data.toList)) [32] = s.data.toList ∧ (∀ p ∈ Lib.splitB ⟨#[32]⟩ 0 k s, NoSp p.data.toList)
  | 0, s, hk => by
    rcases idx32 s.data.toList with ⟨h1, h2⟩ | ⟨i, h1, _⟩
    · refine ⟨by simp [Lib.splitB, Lib.join_one], ?_⟩
      intro p hp
      simp [Lib.splitB] at hp
      subst hp; exact h2
    · have := Lib.countB_hit s ⟨#[32]⟩ i (by decide) h1
      omega
  | k + 1, s, hk => by
    rcases idx32 s.data.toList with ⟨h1, h2⟩ | ⟨i, h1, h2, h3, h4⟩
    · have := Lib.countB_miss s ⟨#[32]⟩ h1
      omega
    · have hc := Lib.countB_hit s ⟨#[32]⟩ i (by decide) h1
      have hsz : (⟨#[32]⟩ : ByteArray).size = 1 := rfl
      rw [hsz] at hc
      obtain ⟨ih1, ih2⟩ := split_ok k (s.extract (i + 1) s.size) (by omega)
      have hhit := Lib.splitB_hit ⟨#[32]⟩ 0 k s i h1
      rw [hsz, Nat.add_zero] at hhit
      have e0 : (s.extract 0 (i + 0)).data.toList = s.data.toList.take i := Lib.extract_from_zero s i
      have e1 : (s.extract (i + 1) s.size).data.toList = s.data.toList.drop (i + 1) := by
        rw [Lib.extract_data, List.take_of_length_le]
        rw [List.length_drop, Array.length_toList]; exact Nat.le_refl _
      rw [hhit]
      refine ⟨?_, ?_⟩
      · obtain ⟨a, r, har⟩ := split_ne k (s.extract (i + 1) s.size)
        rw [har] at ih1 ⊢
        rw [List.map_cons] at ih1
        rw [List.map_cons, List.map_cons, join_two, ih1, e0, e1, ← h3]
      · intro p hp
        rcases List.mem_cons.1 hp with rfl | hp
        · rw [e0]; exact h4
        · exact ih2 p hp
theorem pieces_join (s : ByteArray) : Lib.join ((pieces s).map (·.data.toList)) [32] = s.data.toList := (split_ok _ s rfl).1
theorem pieces_nosp (s : ByteArray) : ∀ p ∈ pieces s, NoSp p.data.toList := (split_ok _ s rfl).2
theorem pieces_ne (s : ByteArray) : ∃ a r, pieces s = a :: r := split_ne _ s

theorem app_inj : ∀ (a b u v : List UInt8), NoSp a → NoSp b → (u = [] ∨ u.head? = some 32) → (v = [] ∨ v.head? = some 32) → a ++ u = b ++ v → a = b ∧ u = v
  | [], [], u, v, _, _, _, _, h => ⟨rfl, h⟩
  | [], c :: b, u, v, _, hb, hu, _, h => by
    exfalso
    simp only [List.nil_append, List.cons_append] at h
    subst h
    rcases hu with h | h
    · cases h
    · simp at h; exact hb c List.mem_cons_self h
  | c :: a, [], u, v, ha, _, _, hv, h => by
    exfalso
    simp only [List.nil_append, List.cons_append] at h
    subst h
    rcases hv with h | h
    · cases h
    · simp at h; exact ha c List.mem_cons_self h
  | c :: a, d :: b, u, v, ha, hb, hu, hv, h => by
    simp only [List.cons_append, List.cons.injEq] at h
    obtain ⟨rfl, h⟩ := h
    obtain ⟨rfl, rfl⟩ := app_inj a b u v (fun x hx => ha x (List.mem_cons_of_mem _ hx)) (fun x hx => hb x (List.mem_cons_of_mem _ hx)) hu hv h
    exact ⟨rfl, rfl⟩
theorem jt_head (r : List (List UInt8)) : Lib.joinTail [32] r = [] ∨ (Lib.joinTail [32] r).head? = some 32 := by
  cases r with
  | nil => exact .inl rfl
  | cons y r => exact .inr (by simp [Lib.joinTail])
theorem jt_inj : ∀ (xs ys : List (List UInt8)), (∀ x ∈ xs, NoSp x) → (∀ y ∈ ys, NoSp y) → Lib.joinTail [32] xs = Lib.joinTail [32] ys → xs = ys
  | [], [], _, _, _ => rfl
  | [], y :: ys, _, _, h => by simp [Lib.joinTail] at h
  | x :: xs, [], _, _, h => by simp [Lib.joinTail] at h
  | x :: xs, y :: ys, hx, hy, h => by
    have h' : x ++ Lib.joinTail [32] xs = y ++ Lib.joinTail [32] ys := by
      simp [Lib.joinTail] at h ⊢; exact h
    obtain ⟨rfl, h2⟩ := app_inj x y _ _ (hx x List.mem_cons_self) (hy y List.mem_cons_self) (jt_head _) (jt_head _) h'
    rw [jt_inj xs ys (fun a ha => hx a (List.mem_cons_of_mem _ ha)) (fun a ha => hy a (List.mem_cons_of_mem _ ha)) h2]
theorem join_inj (x y : List UInt8) (xs ys : List (List UInt8)) (hx : ∀ a ∈ x :: xs, NoSp a) (hy : ∀ a ∈ y :: ys, NoSp a) (h : Lib.join (x :: xs) [32] = Lib.join (y :: ys) [32]) : x :: xs = y :: ys := by
  rw [Lib.join_cons, Lib.join_cons] at h
  obtain ⟨rfl, h2⟩ := app_inj x y _ _ (hx x List.mem_cons_self) (hy y List.mem_cons_self) (jt_head _) (jt_head _) h
  rw [jt_inj xs ys (fun a ha => hx a (List.mem_cons_of_mem _ ha)) (fun a ha => hy a (List.mem_cons_of_mem _ ha)) h2]
/-- The pieces of joined words are the words. -/
theorem pieces_of_join (x : List UInt8) (xs : List (List UInt8)) (h : ∀ a ∈ x :: xs, NoSp a) : (pieces ⟨(Lib.join (x :: xs) [32]).toArray⟩).map (·.data.toList) = x :: xs := by
  have hj := pieces_join ⟨(Lib.join (x :: xs) [32]).toArray⟩
  have hn := pieces_nosp ⟨(Lib.join (x :: xs) [32]).toArray⟩
  obtain ⟨a, r, har⟩ := pieces_ne ⟨(Lib.join (x :: xs) [32]).toArray⟩
  rw [har] at hj hn ⊢
  rw [List.map_cons] at hj ⊢
  refine join_inj _ _ _ _ ?_ h hj
  intro l hl
  rw [← List.map_cons (f := fun p : ByteArray => p.data.toList)] at hl
  obtain ⟨p, hp, rfl⟩ := List.mem_map.1 hl
  exact hn p hp
theorem jt_mem : ∀ (r : List (List UInt8)) (c : UInt8), c ∈ Lib.joinTail [32] r → c = 32 ∨ ∃ w ∈ r, c ∈ w
  | [], c, h => by simp [Lib.joinTail] at h
  | y :: r, c, h => by
    have h' : c ∈ 32 :: (y ++ Lib.joinTail [32] r) := by simpa [Lib.joinTail] using h
    rcases List.mem_cons.1 h' with h | h
    · exact .inl h
    · rcases List.mem_append.1 h with h | h
      · exact .inr ⟨y, List.mem_cons_self, h⟩
      · rcases jt_mem r c h with h | ⟨w, hw, hc⟩
        · exact .inl h
        · exact .inr ⟨w, List.mem_cons_of_mem _ hw, hc⟩
theorem join_mem (x : List UInt8) (r : List (List UInt8)) (c : UInt8) (h : c ∈ Lib.join (x :: r) [32]) : c = 32 ∨ ∃ w ∈ x :: r, c ∈ w := by
  rw [Lib.join_cons] at h
  rcases List.mem_append.1 h with h | h
  · exact .inr ⟨x, List.mem_cons_self, h⟩
  · rcases jt_mem r c h with h | ⟨w, hw, hc⟩
    · exact .inl h
    · exact .inr ⟨w, List.mem_cons_of_mem _ hw, hc⟩

/-- A word of plain bytes. -/
def Good (l : List UInt8) : Prop := l ≠ [] ∧ ∀ c ∈ l, 33 ≤ c.toNat ∧ c.toNat ≤ 126
theorem Good.nosp {l : List UInt8} (h : Good l) : NoSp l := by
  intro c hc he
  subst he
  have := (h.2 _ hc).1
  simp at this
theorem decode_plain (b : ByteArray) (pos : Nat) (h : pos < b.size) (h1 : b[pos].toNat < 128) : Utf8.decode b pos = (b[pos].toNat, 1) := by
  have hg : (b.get! (pos + 0)) = b[pos] := by
    rw [Nat.add_zero]
    show b.data[pos]! = b.data[pos]
    exact getElem!_pos b.data pos h
  unfold Utf8.decode
  simp only [hg]
  rw [if_pos h1]
theorem idx_plain (b : ByteArray) (hb : ∀ c ∈ b.data.toList, 33 ≤ c.toNat ∧ c.toNat ≤ 126) : ∀ (f pos : Nat), Lib.idxFuncFrom pr true b f pos = -1
  | 0, pos => rfl
  | f + 1, pos => by
    unfold Lib.idxFuncFrom
    split
    · rename_i hp
      have hm : b[pos] ∈ b.data.toList := by
        show b.data[pos] ∈ b.data.toList
        exact Array.getElem_mem_toList hp
      have := hb _ hm
      rw [decode_plain b pos hp (by omega)]
      have hpr : pr b[pos].toNat = false := by unfold pr; simp; omega
      simp only [hpr]
      exact idx_plain b hb f (pos + 1)
    · rfl
theorem wBad_good (b : ByteArray) (h : Good b.data.toList) : wBad b = false := by
  unfold wBad
  have h1 : b.toList.isEmpty = false := by
    rw [Lib.toList_data]
    have := h.1
    cases e : b.data.toList with
    | nil => exact absurd e this
    | cons a r => rfl
  have h2 : Lib.idxFunc pr true b = -1 := idx_plain b h.2 _ _
  rw [h1, h2]; rfl
theorem noWords_join (x : List UInt8) (xs : List (List UInt8)) (h : ∀ a ∈ x :: xs, Good a) : noWords ⟨(Lib.join (x :: xs) [32]).toArray⟩ = false := by
  have hp := pieces_of_join x xs (fun a ha => (h a ha).nosp)
  unfold noWords
  rw [Bool.or_eq_false_iff]
  constructor
  · rw [List.any_eq_false]
    intro p hpm
    have : p.data.toList ∈ x :: xs := by rw [← hp]; exact List.mem_map_of_mem hpm
    rw [wBad_good p (h _ this)]; decide
  · rw [List.any_eq_false]
    intro c hc
    have hc' : c ∈ Lib.join (x :: xs) [32] := by simpa using hc
    rcases join_mem x xs c hc' with rfl | ⟨w, hw, hcw⟩
    · decide
    · have := (h w hw).2 c hcw
      simp; omega
theorem piece_ne {s p : ByteArray} (h : noWords s = false) (hp : p ∈ pieces s) : p.data.toList ≠ [] := by
  intro e
  unfold noWords at h
  rw [Bool.or_eq_false_iff, List.any_eq_false] at h
  have := h.1 p hp
  apply this
  unfold wBad
  rw [Lib.toList_data, e]; rfl
end Go.Proofs.YtojmimpaecpiaaaDoor
