/- Text and Parse are inverses: as plain functions. No walk. -/
import Derived.Test.YtojmimpaecpiaaaDoorD0
namespace Go.Proofs.YtojmimpaecpiaaaDoor
open Go.RowKit

/-! Hex. -/
theorem hexDig_fin : ∀ i : Fin 16, hv (hexDig i.val) = some i.val ∧ 33 ≤ (hexDig i.val).toNat ∧ (hexDig i.val).toNat ≤ 126 := by decide +kernel
theorem hexDig_hv (n : Nat) (h : n < 16) : hv (hexDig n) = some n := (hexDig_fin ⟨n, h⟩).1
theorem hexDig_good (n : Nat) (h : n < 16) : 33 ≤ (hexDig n).toNat ∧ (hexDig n).toNat ≤ 126 := (hexDig_fin ⟨n, h⟩).2
theorem hv_dig_fin : ∀ i : Fin 256, ∀ n, hv (UInt8.ofNat i.val) = some n → hexDig n = UInt8.ofNat i.val := by
  intro i n h
  have key : ∀ i : Fin 256, (match hv (UInt8.ofNat i.val) with | some n => hexDig n == UInt8.ofNat i.val | none => true) = true := by decide +kernel
  have := key i
  rw [h] at this; simpa using this
theorem hv_dig {c : UInt8} {n : Nat} (h : hv c = some n) : hexDig n = c := by
  have := hv_dig_fin ⟨c.toNat, c.toNat_lt⟩ n
  simpa using this (by simpa using h)
theorem hexF_cons (b : UInt8) (r : List UInt8) : hexF (b :: r) = hexDig (b.toNat / 16) :: hexDig (b.toNat % 16) :: hexF r := by simp [hexF]
theorem hexF_ok : ∀ l : List UInt8, hexOk (hexF l) = true ∧ hexPairs (hexF l) = l
  | [] => ⟨rfl, rfl⟩
  | b :: r => by
    have hb := b.toNat_lt
    obtain ⟨h1, h2⟩ := hexF_ok r
    have e1 := hexDig_hv (b.toNat / 16) (by omega)
    have e2 := hexDig_hv (b.toNat % 16) (by omega)
    rw [hexF_cons]
    constructor
    · simp only [hexOk, Bool.and_eq_true, beq_iff_eq, List.length_cons, List.all_cons] at h1 ⊢
      rw [e1, e2]
      exact ⟨by omega, rfl, rfl, h1.2⟩
    · rw [hexPairs, e1, e2, h2]
      congr 1
      simp only [Option.getD_some]
      rw [show b.toNat / 16 * 16 + b.toNat % 16 = b.toNat by omega]
      simp
theorem hexF_good (l : List UInt8) (h : l ≠ []) : Good (hexF l) := by
  constructor
  · cases l with
    | nil => exact absurd rfl h
    | cons b r => rw [hexF_cons]; simp
  · intro c hc
    simp only [hexF, List.mem_flatMap, List.mem_cons, List.not_mem_nil, or_false] at hc
    obtain ⟨b, _, hc⟩ := hc
    have hb := b.toNat_lt
    rcases hc with rfl | rfl
    · exact hexDig_good _ (by omega)
    · exact hexDig_good _ (by omega)
theorem hexPairs_back : ∀ l : List UInt8, hexOk l = true → hexF (hexPairs l) = l
  | [], _ => rfl
  | [a], h => by simp [hexOk] at h
  | a :: b :: r, h => by
    simp only [hexOk, Bool.and_eq_true, beq_iff_eq, List.length_cons, List.all_cons] at h
    obtain ⟨h0, ha, hb, hr⟩ := h
    obtain ⟨x, hx⟩ := Option.isSome_iff_exists.1 ha
    obtain ⟨y, hy⟩ := Option.isSome_iff_exists.1 hb
    have hxl := hv_lt hx
    have hyl := hv_lt hy
    have hr' : hexOk r = true := by simp only [hexOk, Bool.and_eq_true, beq_iff_eq]; exact ⟨by omega, hr⟩
    rw [hexPairs, hexF_cons, hexPairs_back r hr', hx, hy]
    simp only [Option.getD_some]
    rw [UInt8.toNat_ofNat', Nat.mod_eq_of_lt (by omega)]
    rw [show (x * 16 + y) / 16 = x by omega, show (x * 16 + y) % 16 = y by omega, hv_dig hx, hv_dig hy]
/-! Bits. -/
theorem marks_ok : ∀ l : List Bool, (marksF l).all bitOk = true ∧ bitsF (marksF l) = l
  | [] => ⟨rfl, rfl⟩
  | b :: r => by
    obtain ⟨h1, h2⟩ := marks_ok r
    simp only [marksF, bitsF, List.map_cons, List.all_cons] at *
    constructor
    · rw [h1]; cases b <;> rfl
    · rw [h2]; cases b <;> rfl
theorem marks_good (l : List Bool) (h : l ≠ []) : Good (marksF l) := by
  constructor
  · intro e; apply h; cases l with
    | nil => rfl
    | cons b r => simp [marksF] at e
  · intro c hc
    simp only [marksF, List.mem_map] at hc
    obtain ⟨b, _, rfl⟩ := hc
    cases b <;> decide
theorem bits_back : ∀ l : List UInt8, l.all bitOk = true → marksF (bitsF l) = l
  | [], _ => rfl
  | c :: r, h => by
    simp only [List.all_cons, Bool.and_eq_true] at h
    have := bits_back r h.2
    simp only [marksF, bitsF, List.map_cons] at *
    rw [this]
    congr 1
    have hc := h.1
    simp only [bitOk, Bool.or_eq_true, beq_iff_eq] at hc
    rcases hc with rfl | rfl <;> rfl
/-! Numbers. -/
theorem itoa_good (n : Int) (h : 0 ≤ n) : Good (Lib.itoa n) := by
  rw [show n = ((n.toNat : Nat) : Int) by omega, itoa_nat]
  exact ⟨dec_ne _, fun c hc => by have := dec_digits _ c hc; omega⟩
theorem numF_int (n : Int) (h0 : 0 ≤ n) (h1 : n ≤ 1073741824) : numF (Lib.itoa n) = some n.toNat := by
  have := numF_itoa n.toNat (by omega)
  rwa [show ((n.toNat : Nat) : Int) = n by omega] at this
/-! Forms. -/
theorem formOf_mem : ∀ f ∈ formsL, formOf f.w = some f := by decide +kernel
theorem formFor_mem : ∀ f ∈ formsL, formFor f.kind f.is = some f := by decide +kernel
theorem forms_good : ∀ f ∈ formsL, f.w ≠ [] ∧ ∀ c ∈ f.w, 33 ≤ c.toNat ∧ c.toNat ≤ 126 := by decide +kernel
theorem formFor_inv {k : Int} {i : Bool} {f : Form} (h : formFor k i = some f) : f ∈ formsL ∧ f.kind = k ∧ (k ≠ 7 ∨ f.is = i) := by
  have h' : formsL.find? (fun f => fits f k i) = some f := h
  refine ⟨List.mem_of_find?_eq_some h', ?_⟩
  have hf : fits f k i = true := by have := List.find?_some h'; exact this
  simp only [fits, Bool.and_eq_true, Bool.or_eq_true, beq_iff_eq, bne_iff_ne] at hf
  exact hf
theorem formOf_inv {l : List UInt8} {f : Form} (h : formOf l = some f) : f ∈ formsL ∧ f.w = l := by
  refine ⟨List.mem_of_find?_eq_some h, ?_⟩
  have := List.find?_some h
  simpa using this

/-- The fields are taken as they were written. -/
theorem takeF_run (x : Dd) (hm : x.mask ≤ 255) : ∀ (cs : List UInt8) (ps : List ByteArray) (y : Dd) (rs : List (List UInt8)), ps.map (·.data.toList) = cs.map (fun c => Lib.itoa (getF c x)) ++ rs → cs.all (fun c => numOk (getF c x)) = true →
    ∃ l, takeF cs ps y = some (cs.foldl (fun y c => setF c (getF c x).toNat y) y, l) ∧ l.map (·.data.toList) = rs
  | [], ps, y, rs, h, _ => ⟨ps, rfl, by simpa using h⟩
  | c :: cs, [], y, rs, h, _ => by simp at h
  | c :: cs, p :: ps, y, rs, h, ho => by
    simp only [List.map_cons, List.cons_append, List.cons.injEq] at h
    simp only [List.all_cons, Bool.and_eq_true] at ho
    have hn := ho.1
    simp only [numOk, Bool.and_eq_true, decide_eq_true_eq] at hn
    obtain ⟨l, h1, h2⟩ := takeF_run x hm cs ps (setF c (getF c x).toNat y) rs h.2 ho.2
    refine ⟨l, ?_, h2⟩
    unfold takeF
    rw [h.1, numF_int _ hn.1 hn.2]
    simp only
    rw [if_neg]
    · exact h1
    · rintro ⟨rfl, hg⟩
      simp [getF] at hg
      omega
theorem takeF_cons {c : UInt8} {cs : List UInt8} {ps : List ByteArray} {x : Dd} {r : Dd × List ByteArray} (h : takeF (c :: cs) ps x = some r) :
    ∃ p l n, ps = p :: l ∧ p.data.toList = Lib.itoa (n : Nat) ∧ n ≤ 1073741824 ∧ (c = 109 → n ≤ 255) ∧ takeF cs l (setF c n x) = some r := by
  cases ps with
  | nil => simp [takeF] at h
  | cons p l =>
    unfold takeF at h
    split at h
    · cases h
    · rename_i n hn
      split at h
      · cases h
      · rename_i hm
        obtain ⟨h1, h2⟩ := numF_some hn
        exact ⟨p, l, n, rfl, h2, h1, fun e => Nat.le_of_not_lt fun hh => hm ⟨e, hh⟩, h⟩

/-- What a line tells, the line tells. -/
theorem parse_text (x : Dd) (hm : x.mask ≤ 255) (s : List UInt8) (h : textF x = .ok s) : parseF ⟨s.toArray⟩ = .ok x := by
  unfold textF at h
  split at h
  · cases h
  rename_i f hf
  obtain ⟨hfm, hk, his⟩ := formFor_inv hf
  split at h
  · rename_i hc
    split at h
    · cases h
    · rename_i hlen
      injection h with h
      simp only [Bool.and_eq_true] at hc
      obtain ⟨⟨hnum, hbare⟩, hrest⟩ := hc
      have hgood : ∀ a ∈ wordsOf f x, Good a := by
        intro a ha
        simp only [wordsOf, List.cons_append, List.mem_cons, List.mem_append, List.mem_map] at ha
        rcases ha with rfl | ⟨c, hc, rfl⟩ | ha
        · exact forms_good f hfm
        · refine itoa_good _ ?_
          have := List.all_eq_true.1 hnum c hc
          simp only [numOk, Bool.and_eq_true, decide_eq_true_eq] at this
          exact this.1
        · unfold restOf at ha
          split at ha
          · split at ha
            · cases ha
            · rename_i hne
              simp at ha; subst ha; exact hexF_good _ hne
          · split at ha
            · split at ha
              · cases ha
              · rename_i hne
                simp at ha; subst ha; exact marks_good _ hne
            · cases ha
      have hnw : noWords ⟨s.toArray⟩ = false := by rw [← h]; exact noWords_join _ _ hgood
      have hpc : (pieces ⟨s.toArray⟩).map (·.data.toList) = wordsOf f x := by
        rw [← h]; exact pieces_of_join _ _ (fun a ha => (hgood a ha).nosp)
      have hsz : ¬ 2200 < (⟨s.toArray⟩ : ByteArray).size := by
        rw [show (⟨s.toArray⟩ : ByteArray).size = s.length from List.size_toArray, ← h]; exact hlen
      obtain ⟨p0, ps, hps⟩ := pieces_ne ⟨s.toArray⟩
      rw [hps] at hpc
      simp only [List.map_cons, wordsOf, List.cons_append, List.cons.injEq] at hpc
      obtain ⟨hp0, hpt⟩ := hpc
      obtain ⟨l, htk, hl⟩ := takeF_run x hm f.fields ps { zeroD with kind := f.kind, is := f.is } (restOf f x) hpt hnum
      unfold parseF
      rw [if_neg hsz, if_neg (by rw [hnw]; decide), hps]
      simp only [List.headD_cons, List.tail_cons]
      rw [hp0, formOf_mem f hfm]
      simp only
      rw [htk]
      simp only
      have hfin : endF f.rest (f.fields.foldl (fun y c => setF c (getF c x).toNat y) { zeroD with kind := f.kind, is := f.is }) l = some x := by
        clear htk hpt hps hsz hnw hgood h hlen hp0 hf
        obtain ⟨xk, xw, xn, xa, xi, xm, xo, xb, xp⟩ := x
        simp only at hk his hm
        have hhex := hexF_ok xb
        have hmar := marks_ok xp
        simp only [formsL, List.mem_cons, List.not_mem_nil, or_false] at hfm
        rcases hfm with rfl | rfl | rfl | rfl | rfl | rfl | rfl | rfl | rfl | rfl | rfl | rfl | rfl | rfl | rfl
        all_goals
          simp only [restOk, restOf, Dd.bare, left0, clrF, getF, numOk, setF, zeroD, List.all_cons, List.all_nil, List.foldl_cons, List.foldl_nil] at hl hbare hrest hnum ⊢
          simp at hl hbare hrest hnum hk his ⊢
          subst hk
        all_goals first
          | (subst hl
             simp only [endF, Option.some.injEq, Dd.mk.injEq]
             refine ⟨trivial, ?_, ?_, ?_, ?_, ?_, ?_, ?_, ?_⟩
             all_goals first | omega | (cases xi <;> simp_all) | simp_all)
          | (by_cases hb : xb = []
             · rw [if_pos hb] at hl
               obtain rfl : l = [] := by cases l with | nil => rfl | cons a r => simp at hl
               simp only [endF, Option.some.injEq, Dd.mk.injEq]
               refine ⟨trivial, ?_, ?_, ?_, ?_, ?_, ?_, ?_, ?_⟩
               all_goals first | omega | (cases xi <;> simp_all) | simp_all
             · rw [if_neg hb] at hl
               obtain ⟨r, rfl, hr⟩ : ∃ r, l = [r] ∧ r.data.toList = hexF xb := by
                 match l, hl with
                 | [r], hl => exact ⟨r, rfl, by simpa using hl⟩
                 | [], hl => simp at hl
                 | a :: b :: r, hl => simp at hl
               simp only [endF, hr, hhex, if_true, Option.some.injEq, Dd.mk.injEq]
               refine ⟨trivial, ?_, ?_, ?_, ?_, ?_, ?_, ?_, ?_⟩
               all_goals first | omega | (cases xi <;> simp_all) | simp_all)
          | (by_cases hb : xp = []
             · rw [if_pos hb] at hl
               obtain rfl : l = [] := by cases l with | nil => rfl | cons a r => simp at hl
               simp only [endF, Option.some.injEq, Dd.mk.injEq]
               refine ⟨trivial, ?_, ?_, ?_, ?_, ?_, ?_, ?_, ?_⟩
               all_goals first | omega | (cases xi <;> simp_all) | simp_all
             · rw [if_neg hb] at hl
               obtain ⟨r, rfl, hr⟩ : ∃ r, l = [r] ∧ r.data.toList = marksF xp := by
                 match l, hl with
                 | [r], hl => exact ⟨r, rfl, by simpa using hl⟩
                 | [], hl => simp at hl
                 | a :: b :: r, hl => simp at hl
               simp only [endF, hr, hmar, if_true, if_neg (show ¬ ((107 : UInt8) = 98) by decide), Option.some.injEq, Dd.mk.injEq]
               refine ⟨trivial, ?_, ?_, ?_, ?_, ?_, ?_, ?_, ?_⟩
               all_goals first | omega | (cases xi <;> simp_all) | simp_all)
      rw [hfin]
  · cases h
end Go.Proofs.YtojmimpaecpiaaaDoor
