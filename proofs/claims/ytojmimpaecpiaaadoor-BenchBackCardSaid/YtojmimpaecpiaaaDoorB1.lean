/- Text. -/
import Derived.Test.YtojmimpaecpiaaaDoorB1a
namespace Go.Proofs.YtojmimpaecpiaaaDoor
open Go.RowKit
set_option maxRecDepth 100000 in
set_option maxHeartbeats 4000000 in
theorem text_none (x : Dd) (vb vk : Value) (w : World) (hf : formFor x.kind x.is = none) :
    Calls Tryd.prog 5 #[.agg (x.cells vb vk)] w (TextPost w x) := by
  have ht : textF x = .error 2 := by unfold textF; rw [hf]
  have hfin : ∀ e w', e = .returned (.tuple #[.string { data := #[] }, .int .i64 2]) → Below w.heap.size w w' → TextPost w x e w' := fun e w' he hb => by
    unfold TextPost; rw [ht]; exact ⟨he, hb⟩
  have Hfin := hidd hfin; clear hfin ht
  obtain ⟨kind, who, n, at_, is, mask, op, body, keeps⟩ := x
  have hword := fun w => word_none kind who n at_ mask op is vb vk w hf
  have Hword := hidd hword
  clear hf hword
  generalize TextPost w _ = Q at *
  unfold Dd.cells
  simp only
  go_enter Tryd.func5, Tryd.ntmps5
  go_wp2_with (fail)
  refine (Hword.out _).mono ?_
  rintro e w1 ⟨rfl, hb⟩
  have hb' : Below w.heap.size w w1 := ((Below.refl _ _).alloc (Nat.le_refl _) _).trans (hb.mono (by simp))
  clear hb
  have hs := hb'.size
  go_wp2_with (fail)
  refine Hfin.out _ _ rfl ?_
  with_reducible (repeat' (first | exact hb' | refine Below.drew ?_ | refine Below.setCell ?_ ?_ _ | refine Below.alloc ?_ ?_ _))
  all_goals (first | omega | (simp; omega))

set_option maxRecDepth 100000 in
set_option maxHeartbeats 12000000 in
theorem text_some (x : Dd) (vb vk : Value) (w : World) (hE : Env w) (fw : List UInt8) (fk : Int) (fi : Bool) (ff : List UInt8) (fr : UInt8) (hf : formFor x.kind x.is = some ⟨fw, fk, fi, ff, fr⟩)
    (hvb : Sl w vb (byteCells x.body)) (hvk : Sl w vk (x.keeps.map .bool)) (hbl : x.body.length ≤ 1200) (hkl : x.keeps.length ≤ 2500) (hm : x.mask ≤ 255) (hfl : ff.length ≤ 10) (hfwl : fw.length ≤ 10) :
    Calls Tryd.prog 5 #[.agg (x.cells vb vk)] w (TextPost w x) := by
  have hword := fun w => word_some x.kind x.who x.n x.at_ x.mask x.op x.is vb vk w fw fk fi ff fr hf
  obtain ⟨i0, hi, hz0, hz1, hz2⟩ := info_parts Tryd.info9
  have Hword := hidd hword
  have Hf := hidd hf
  clear hf hword
  have Hvb := hidd hvb; have Hvk := hidd hvk
  obtain ⟨Ab, cb, rfl, hcb, _⟩ := hvb
  obtain ⟨Ak, ck, rfl, hck, _⟩ := hvk
  rw [byteCells_length] at *
  rw [List.length_map] at *
  go_enter Tryd.func5, Tryd.ntmps5
  unfold Dd.cells
  obtain ⟨kind, who, n, at_, is, mask, op, body, keeps⟩ := x
  simp only at *
  go_wp2_with (fail)
  refine (Hword.out _).mono ?_
  rintro e w1 ⟨rfl, hb⟩
  have hb' : Below w.heap.size w w1 := ((Below.refl _ _).alloc (Nat.le_refl _) _).trans (hb.mono (by simp))
  have hbx : w1.heap[w.heap.size]? = some (.cells #[.int .i64 kind, .int .i64 who, .int .i64 n, .int .i64 at_, .bool is, .int .u8 mask,   .int .i64 op, .slice Ab body.length cb, .slice Ak keeps.length ck] 25 (0, 0)) := (hb.block w.heap.size (by simp)).trans (heap_alloc_new w _)
  clear hb
  have hs : w.heap.size < w1.heap.size := lt_of_block hbx
  have Hbx := hidd hbx
  clear hbx
  have c0 : w1.cell? ⟨w.heap.size, 0, none⟩ = some (.int .i64 kind) := by simp [World.cell?, Hbx.out]
  have c1 : w1.cell? ⟨w.heap.size, 1, none⟩ = some (.int .i64 who) := by simp [World.cell?, Hbx.out]
  have c2 : w1.cell? ⟨w.heap.size, 2, none⟩ = some (.int .i64 n) := by simp [World.cell?, Hbx.out]
  have c3 : w1.cell? ⟨w.heap.size, 3, none⟩ = some (.int .i64 at_) := by simp [World.cell?, Hbx.out]
  have c4 : w1.cell? ⟨w.heap.size, 4, none⟩ = some (.bool is) := by simp [World.cell?, Hbx.out]
  have c5 : w1.cell? ⟨w.heap.size, 5, none⟩ = some (.int .u8 mask) := by simp [World.cell?, Hbx.out]
  have c6 : w1.cell? ⟨w.heap.size, 6, none⟩ = some (.int .i64 op) := by simp [World.cell?, Hbx.out]
  have c7 : w1.cell? ⟨w.heap.size, 7, none⟩ = some (.slice Ab body.length cb) := by simp [World.cell?, Hbx.out]
  have c8 : w1.cell? ⟨w.heap.size, 8, none⟩ = some (.slice Ak keeps.length ck) := by simp [World.cell?, Hbx.out]
  go_wp2_with (fail)
  have h3 := three_blocks w1 (.cells #[.int .i64 fk, .bool fi, .string { data := ff.toArray }, .int .u8 fr.toNat] 36) (.cells #[.string { data := fw.toArray }] 9) (.cells #[.int .i64 kind, .int .i64 who, .int .i64 n, .int .i64 at_, .bool is, .int .u8 mask, .int .i64 op, .slice Ab body.length cb, .slice Ak keeps.length ck] 25)
  have hd3 : (((w1.alloc (.cells #[.int .i64 fk, .bool fi, .string { data := ff.toArray }, .int .u8 fr.toNat] 36)).alloc (.cells #[.string { data := fw.toArray }] 9)).alloc (.cells #[.int .i64 kind, .int .i64 who, .int .i64 n, .int .i64 at_, .bool is, .int .u8 mask, .int .i64 op, .slice Ab body.length cb, .slice Ak keeps.length ck] 25)).heap[w.heap.size]? = some (.cells #[.int .i64 kind, .int .i64 who, .int .i64 n, .int .i64 at_, .bool is, .int .u8 mask, .int .i64 op, .slice Ab body.length cb, .slice Ak keeps.length ck] 25 (0, 0)) := by
    rw [Below.heap_alloc _ _ _ (by simp; omega), Below.heap_alloc _ _ _ (by simp; omega), Below.heap_alloc _ _ _ hs]; exact Hbx.out
  have hb3 : Below w.heap.size w (((w1.alloc (.cells #[.int .i64 fk, .bool fi, .string { data := ff.toArray }, .int .u8 fr.toNat] 36)).alloc (.cells #[.string { data := fw.toArray }] 9)).alloc (.cells #[.int .i64 kind, .int .i64 who, .int .i64 n, .int .i64 at_, .bool is, .int .u8 mask, .int .i64 op, .slice Ab body.length cb, .slice Ak keeps.length ck] 25)) := ((hb'.alloc (Nat.le_of_lt hs) _).alloc (by simp; omega) _).alloc (by simp; omega) _
  clear c0 c1 c2 c3 c4 c5 c6 c7 c8
  generalize (((w1.alloc (.cells #[.int .i64 fk, .bool fi, .string { data := ff.toArray }, .int .u8 fr.toNat] 36)).alloc (.cells #[.string { data := fw.toArray }] 9)).alloc (.cells #[.int .i64 kind, .int .i64 who, .int .i64 n, .int .i64 at_, .bool is, .int .u8 mask, .int .i64 op, .slice Ab body.length cb, .slice Ak keeps.length ck] 25)) = w3 at h3 hd3 hb3 ⊢
  obtain ⟨hf3, hs3, hl3, hz3⟩ := h3
  generalize w1.heap.size = b at *
  have Hf3 := hidd hf3; have Hs3 := hidd hs3; have Hl3 := hidd hl3; have Hd3 := hidd hd3; have Hz3 := hidd hz3
  clear hf3 hs3 hl3 hd3 hz3 hb' Hbx
  go_cut [8] (fun s8 wx => TS w wx b ⟨kind, who, n, at_, is, mask, op, body, keeps⟩ (left0 ⟨kind, who, n, at_, is, mask, op, body, keeps⟩) (.slice Ab body.length cb) (.slice Ak keeps.length ck) (.slice Ab body.length cb) (.slice Ak keeps.length ck) ⟨fw, fk, fi, ff, fr⟩ s8 [fw])
  case first =>
    have c0 : w3.cell? ⟨w.heap.size, 0, none⟩ = some (.int .i64 kind) := by simp [World.cell?, Hd3.out]
    have c4 : w3.cell? ⟨w.heap.size, 4, none⟩ = some (.bool is) := by simp [World.cell?, Hd3.out]
    have d0 : w3.cell? ⟨b + 1 + 1, 0, none⟩ = some (.int .i64 kind) := by simp [World.cell?, Hl3.out]
    have d4 : w3.cell? ⟨b + 1 + 1, 4, none⟩ = some (.bool is) := by simp [World.cell?, Hl3.out]
    have z0 : w3.frozen? ⟨b + 1 + 1, 0, none⟩ = false := free_of_cells Hl3.out 0
    have z4 : w3.frozen? ⟨b + 1 + 1, 4, none⟩ = false := free_of_cells Hl3.out 4
    have hfin : ∀ (v : Bool), v = (is && kind != 7) → ∀ W : World, W.heap = ((w3.setCell ⟨b + 1 + 1, 0, none⟩ (.int .i64 0)).setCell ⟨b + 1 + 1, 4, none⟩ (.bool v)).heap → W.os = w3.os → W.tape = w3.tape → W.output = w3.output →
      TS w W b ⟨kind, who, n, at_, is, mask, op, body, keeps⟩ (left0 ⟨kind, who, n, at_, is, mask, op, body, keeps⟩) (.slice Ab body.length cb) (.slice Ak keeps.length ck) (.slice Ab body.length cb) (.slice Ak keeps.length ck) ⟨fw, fk, fi, ff, fr⟩ (.slice (some ⟨b + 1, 0, none⟩) 1 1) [fw] := by
      intro v hv W hW ho ht hu
      have hbl' : ∀ k, k ≠ b + 1 + 1 → W.heap[k]? = w3.heap[k]? := fun k hk => by
        rw [hW, Below.heap_setCell _ _ _ _ hk, Below.heap_setCell _ _ _ _ hk]
      refine ⟨(hbl' _ (by omega)).trans Hd3.out, (hbl' _ (by omega)).trans Hf3.out, ?_, ?_, ?_, hs⟩
      · rw [hW]
        have : w3.heap[b + 1 + 1]? = _ := Hl3.out
        simp only [World.setCell, Array.getElem?_modify, this, left0, Dd.cells, hv]
        rfl
      · refine ⟨rfl, .inr ⟨b + 1, 1, #[.string { data := fw.toArray }], rfl, Nat.le_refl _, (hbl' _ (by omega)).trans Hs3.out, Nat.le_refl _, by unfold maxLen; omega, rfl, rfl⟩⟩
      · refine ⟨ho.trans hb3.os, ht.trans hb3.tape, hu.trans hb3.output, ?_, fun k hk => (hbl' k (by omega)).trans (hb3.block k hk)⟩
        rw [hW]; simpa [World.setCell] using hb3.size
    have Hfin := hidd hfin; clear hfin
    by_cases his : is = true
    · subst his
      by_cases h7 : kind = 7
      · subst h7
        go_region
        all_goals (go_wp2_with fail; go_meet)
        all_goals exact Hfin.out false rfl _ rfl rfl rfl rfl
      · have h71 : (kind != 7) = true := by rw [bne_iff_ne]; exact h7
        clear h7
        go_region
        all_goals (go_wp2_with fail; go_meet)
        all_goals exact Hfin.out true (by rw [h71]; rfl) _ rfl rfl rfl rfl
    · have his' : is = false := by simpa using his
      subst his'
      go_region
      all_goals (go_wp2_with fail; go_meet)
      all_goals exact Hfin.out false rfl _ rfl rfl rfl rfl
  case rest =>
    clear Hf3 Hs3 Hl3 Hd3 Hz3 hb3
    obtain ⟨cap0, w4, cs, fz, hconv, hb4, hlt4, hcap0, hcs, hcsj⟩ := bytes_of2 ⟨ff.toArray⟩ wc
    have f2 : wc.cell? ⟨b, 2, none⟩ = some (.string ⟨ff.toArray⟩) := by simp [World.cell?, hcut.form]
    have hsz : (⟨ff.toArray⟩ : ByteArray).size = ff.length := by show ff.toArray.size = _; simp
    rw [hsz] at hconv hcap0
    simp only at hcsj
    have Hcs := hidd hcs; have Hcsj := hidd hcsj
    have hT := hcut.belowT hb4
    have hLT : LT w w4 b wc.heap.size cs fz ⟨kind, who, n, at_, is, mask, op, body, keeps⟩ (.slice Ab body.length cb) (.slice Ak keeps.length ck) ⟨fw, fk, fi, ff, fr⟩ u8 0 := ⟨hT, rfl, Hcs.out⟩
    have HLT := hidd hLT
    clear hcs hcsj hcut hT hLT
    go_wp2_with (fail)
    generalize wc.heap.size = g0 at *
    go_loopg [8, 37] ff.length (fun g s8 i wr => ∃ k : Nat, k ≤ ff.length ∧ g = ff.length - k ∧ i = .int .i64 k ∧ LT w wr b g0 cs fz ⟨kind, who, n, at_, is, mask, op, body, keeps⟩ (.slice Ab body.length cb) (.slice Ak keeps.length ck) ⟨fw, fk, fi, ff, fr⟩ s8 k)
    case atStart => exact ⟨0, Nat.zero_le _, rfl, rfl, HLT.out⟩
    case round =>
      obtain ⟨k, hk, rfl, rfl, hL⟩ := hrel
      have HL := hidd hL; clear hL
      by_cases hlt : k < ff.length
      · obtain ⟨c, hc⟩ : ∃ c, ff[k]? = some c := ⟨_, List.getElem?_eq_getElem hlt⟩
        have gc : wr.cell? ⟨g0, k, none⟩ = some (.int .u8 c.toNat) := by
          have h1 := HL.out.2.2
          have h2 := Hcsj.out k c (by simpa using hc)
          simp [World.cell?, h1, h2]
        have Hc := hidd hc; clear hc
        go_upto_block 2 with fail
        go_cut [11] (fun s11 wx => s11 = .int .i64 (getF c ⟨kind, who, n, at_, is, mask, op, body, keeps⟩) ∧ LT2 w wx b g0 cs fz ⟨kind, who, n, at_, is, mask, op, body, keeps⟩ (.slice Ab body.length cb) (.slice Ak keeps.length ck) ⟨fw, fk, fi, ff, fr⟩ u8 k)
        case first =>
          by_cases h119 : c = 119
          · subst h119
            have q0 : wr.cell? ⟨w.heap.size, 1, none⟩ = some (.int .i64 who) := by have h := HL.out.1.deed; simp [World.cell?, h, Dd.cells]
            obtain ⟨v0, q1⟩ : ∃ v, wr.cell? ⟨b + 1 + 1, 1, none⟩ = some v := by have h := HL.out.1.left; exact ⟨_, by simp [World.cell?, h, Dd.cells]; rfl⟩
            have q2 : wr.frozen? ⟨b + 1 + 1, 1, none⟩ = false := free_of_cells HL.out.1.left 1
            have hout : LT2 w (wr.setCell ⟨b + 1 + 1, 1, none⟩ (.int .i64 0)) b g0 cs fz ⟨kind, who, n, at_, is, mask, op, body, keeps⟩ (.slice Ab body.length cb) (.slice Ak keeps.length ck) ⟨fw, fk, fi, ff, fr⟩ u8 k := by
              refine LT2.of HL.out Hc.out 1 _ ?_
              simp [clrF, Dd.cells]
            have Hout := hidd hout; clear hout
            go_wp2_with (fail)
            go_meet
            first | exact ⟨rfl, Hout.out⟩ | exact Hout.out
          · have e119 : ¬ ((c.toNat : Int) = 119) := fun h => h119 (UInt8.toNat_inj.1 (Int.ofNat_inj.1 h))
            have i119 : ((c.toNat : Int) == 119) = false := beq_eq_false_iff_ne.2 e119
            clear e119
            by_cases h110 : c = 110
            · subst h110
              have q0 : wr.cell? ⟨w.heap.size, 2, none⟩ = some (.int .i64 n) := by have h := HL.out.1.deed; simp [World.cell?, h, Dd.cells]
              obtain ⟨v0, q1⟩ : ∃ v, wr.cell? ⟨b + 1 + 1, 2, none⟩ = some v := by have h := HL.out.1.left; exact ⟨_, by simp [World.cell?, h, Dd.cells]; rfl⟩
              have q2 : wr.frozen? ⟨b + 1 + 1, 2, none⟩ = false := free_of_cells HL.out.1.left 2
              have hout : LT2 w (wr.setCell ⟨b + 1 + 1, 2, none⟩ (.int .i64 0)) b g0 cs fz ⟨kind, who, n, at_, is, mask, op, body, keeps⟩ (.slice Ab body.length cb) (.slice Ak keeps.length ck) ⟨fw, fk, fi, ff, fr⟩ u8 k := by
                refine LT2.of HL.out Hc.out 2 _ ?_
                simp [clrF, Dd.cells]
              have Hout := hidd hout; clear hout
              go_wp2_with (fail)
              go_meet
              first | exact ⟨rfl, Hout.out⟩ | exact Hout.out
            · have e110 : ¬ ((c.toNat : Int) = 110) := fun h => h110 (UInt8.toNat_inj.1 (Int.ofNat_inj.1 h))
              have i110 : ((c.toNat : Int) == 110) = false := beq_eq_false_iff_ne.2 e110
              clear e110
              by_cases h97 : c = 97
              · subst h97
                have q0 : wr.cell? ⟨w.heap.size, 3, none⟩ = some (.int .i64 at_) := by have h := HL.out.1.deed; simp [World.cell?, h, Dd.cells]
                obtain ⟨v0, q1⟩ : ∃ v, wr.cell? ⟨b + 1 + 1, 3, none⟩ = some v := by have h := HL.out.1.left; exact ⟨_, by simp [World.cell?, h, Dd.cells]; rfl⟩
                have q2 : wr.frozen? ⟨b + 1 + 1, 3, none⟩ = false := free_of_cells HL.out.1.left 3
                have hout : LT2 w (wr.setCell ⟨b + 1 + 1, 3, none⟩ (.int .i64 0)) b g0 cs fz ⟨kind, who, n, at_, is, mask, op, body, keeps⟩ (.slice Ab body.length cb) (.slice Ak keeps.length ck) ⟨fw, fk, fi, ff, fr⟩ u8 k := by
                  refine LT2.of HL.out Hc.out 3 _ ?_
                  simp [clrF, Dd.cells]
                have Hout := hidd hout; clear hout
                go_wp2_with (fail)
                go_meet
                first | exact ⟨rfl, Hout.out⟩ | exact Hout.out
              · have e97 : ¬ ((c.toNat : Int) = 97) := fun h => h97 (UInt8.toNat_inj.1 (Int.ofNat_inj.1 h))
                have i97 : ((c.toNat : Int) == 97) = false := beq_eq_false_iff_ne.2 e97
                clear e97
                by_cases h111 : c = 111
                · subst h111
                  have q0 : wr.cell? ⟨w.heap.size, 6, none⟩ = some (.int .i64 op) := by have h := HL.out.1.deed; simp [World.cell?, h, Dd.cells]
                  obtain ⟨v0, q1⟩ : ∃ v, wr.cell? ⟨b + 1 + 1, 6, none⟩ = some v := by have h := HL.out.1.left; exact ⟨_, by simp [World.cell?, h, Dd.cells]; rfl⟩
                  have q2 : wr.frozen? ⟨b + 1 + 1, 6, none⟩ = false := free_of_cells HL.out.1.left 6
                  have hout : LT2 w (wr.setCell ⟨b + 1 + 1, 6, none⟩ (.int .i64 0)) b g0 cs fz ⟨kind, who, n, at_, is, mask, op, body, keeps⟩ (.slice Ab body.length cb) (.slice Ak keeps.length ck) ⟨fw, fk, fi, ff, fr⟩ u8 k := by
                    refine LT2.of HL.out Hc.out 6 _ ?_
                    simp [clrF, Dd.cells]
                  have Hout := hidd hout; clear hout
                  go_wp2_with (fail)
                  go_meet
                  first | exact ⟨rfl, Hout.out⟩ | exact Hout.out
                · have e111 : ¬ ((c.toNat : Int) = 111) := fun h => h111 (UInt8.toNat_inj.1 (Int.ofNat_inj.1 h))
                  have i111 : ((c.toNat : Int) == 111) = false := beq_eq_false_iff_ne.2 e111
                  clear e111
                  by_cases h109 : c = 109
                  · subst h109
                    have q0 : wr.cell? ⟨w.heap.size, 5, none⟩ = some (.int .u8 mask) := by have h := HL.out.1.deed; simp [World.cell?, h, Dd.cells]
                    obtain ⟨v0, q1⟩ : ∃ v, wr.cell? ⟨b + 1 + 1, 5, none⟩ = some v := by have h := HL.out.1.left; exact ⟨_, by simp [World.cell?, h, Dd.cells]; rfl⟩
                    have q2 : wr.frozen? ⟨b + 1 + 1, 5, none⟩ = false := free_of_cells HL.out.1.left 5
                    have hout : LT2 w (wr.setCell ⟨b + 1 + 1, 5, none⟩ (.int .u8 0)) b g0 cs fz ⟨kind, who, n, at_, is, mask, op, body, keeps⟩ (.slice Ab body.length cb) (.slice Ak keeps.length ck) ⟨fw, fk, fi, ff, fr⟩ u8 k := by
                      refine LT2.of HL.out Hc.out 5 _ ?_
                      simp [clrF, Dd.cells]
                    have Hout := hidd hout; clear hout
                    go_wp2_with (fail)
                    go_meet
                    first | exact ⟨rfl, Hout.out⟩ | exact Hout.out
                  · have e109 : ¬ ((c.toNat : Int) = 109) := fun h => h109 (UInt8.toNat_inj.1 (Int.ofNat_inj.1 h))
                    have i109 : ((c.toNat : Int) == 109) = false := beq_eq_false_iff_ne.2 e109
                    clear e109
                    have hout : LT2 w wr b g0 cs fz ⟨kind, who, n, at_, is, mask, op, body, keeps⟩ (.slice Ab body.length cb) (.slice Ak keeps.length ck) ⟨fw, fk, fi, ff, fr⟩ u8 k := by
                      refine LT2.same HL.out Hc.out ?_
                      simp [clrF, h119, h110, h97, h111, h109]
                    have hg : getF c ⟨kind, who, n, at_, is, mask, op, body, keeps⟩ = 0 := by simp [getF, h119, h110, h97, h111, h109]
                    have Hout := hidd hout; have Hg := hidd hg; clear hout hg
                    go_wp2_with (fail)
                    go_meet
                    first | exact ⟨by rw [Hg.out], Hout.out⟩ | exact ⟨Hg.out, Hout.out⟩
        case rest =>
          obtain ⟨rfl, hL2⟩ := hcut
          have hE2 : Env wc := hE.below hL2.1.below
          have hnum : numOk (getF c ⟨kind, who, n, at_, is, mask, op, body, keeps⟩) = false → textF ⟨kind, who, n, at_, is, mask, op, body, keeps⟩ = .error 2 := fun h => text_err Hf.out (by
            rw [Bool.and_eq_false_iff, Bool.and_eq_false_iff]; left; left
            rw [List.all_eq_false]; exact ⟨c, List.mem_of_getElem? Hc.out, by simpa using h⟩)
          have hbelow := hL2.1.below
          have Hnum := hidd hnum; have HL2 := hidd hL2
          clear hnum hL2
          generalize hN : getF c ⟨kind, who, n, at_, is, mask, op, body, keeps⟩ = N at *
          have HN := hidd hN; clear hN
          by_cases h0 : N < 0
          · have herr := Hnum.out (by simp [numOk]; omega)
            have Herr := hidd herr; clear herr
            go_wp2_with (fail)
            go_ret2
            exact textPost_err Herr.out rfl hbelow
          · by_cases h1 : 1073741824 < N
            · have herr := Hnum.out (by simp [numOk]; omega)
              have Herr := hidd herr; clear herr
              go_wp2_with (fail)
              go_ret2
              exact textPost_err Herr.out rfl hbelow
            · go_wp2_with (fail)
              refine (itoa_any N (by omega) (by omega) wc hE2).mono ?_
              rintro e w5 ⟨rfl, hb5⟩
              obtain ⟨hT2, hall2, hg02⟩ := HL2.out
              have hT5 := hT2.belowT hb5
              have hg05 := (hb5.block g0 (lt_of_block hg02)).trans hg02
              have hall3 : ((ff.take (k + 1)).all fun c => numOk (getF c ⟨kind, who, n, at_, is, mask, op, body, keeps⟩)) = true := by
                rw [List.take_add_one, Hc.out]
                simp only [List.all_append, hall2, Option.toList, List.all_cons, List.all_nil, HN.out]
                simp [numOk]; omega
              have hown5 := hT5.words
              have hw5 : b + 1 ≤ w5.heap.size := by have := lt_of_block hT5.left; omega
              have hlen5 : (fw :: (ff.take k).map fun c => Lib.itoa (getF c ⟨kind, who, n, at_, is, mask, op, body, keeps⟩)).length ≤ 1000 := by
                simp only [List.length_cons, List.length_map, List.length_take]; omega
              have HT5 := hidd hT5; have Hg05 := hidd hg05; have Hall3 := hidd hall3
              clear hT2 hall2 hg02 hT5 hg05 hall3
              go_wp2_with (at_builtin; refine wpList_append_own _ rfl _ _ 39 rfl (b + 1) 9 i0 (.string { data := #[] }) 1 16 Tryd.underlying39 hi hz0 hz1 hz2 rfl (by decide) _ _ _ rfl (hown5.alloc _) ⟨w5.heap.size, 0, none⟩ 1 1 [.string ⟨(Lib.itoa N).toArray⟩] rfl rfl (cell_one_new _ _ _) (one_string _) (by unfold maxLen; omega) (by omega) (Nat.le_trans hw5 (by simp)) ?_; intro v' w6 hown' hgrow _)
              have hT6 := HT5.out.app hown' hgrow
              have hg06 := grown_keep HT5.out.words hgrow Hg05.out (by decide)
              clear hown' hgrow hown5
              have hL6 : LT w w6 b g0 cs fz ⟨kind, who, n, at_, is, mask, op, body, keeps⟩ (.slice Ab body.length cb) (.slice Ak keeps.length ck) ⟨fw, fk, fi, ff, fr⟩ v' (k + 1) := by
                refine ⟨?_, Hall3.out, hg06⟩
                have e : (fw :: (ff.take (k + 1)).map fun c => Lib.itoa (getF c ⟨kind, who, n, at_, is, mask, op, body, keeps⟩)) = (fw :: (ff.take k).map fun c => Lib.itoa (getF c ⟨kind, who, n, at_, is, mask, op, body, keeps⟩)) ++ [Lib.itoa N] := by
                  rw [List.take_add_one, Hc.out]; simp [HN.out]
                show TS _ _ _ _ _ _ _ _ _ _ _ (fw :: (ff.take (k + 1)).map fun c => Lib.itoa (getF c ⟨kind, who, n, at_, is, mask, op, body, keeps⟩))
                rw [e]; exact hT6
              have HL6 := hidd hL6
              clear hT6 hg06 hL6
              go_wp2_with (fail)
              go_roundg (ff.length - (k + 1))
              case measure => omega
              case rel => exact ⟨k + 1, by omega, rfl, by go_num, HL6.out⟩
      · obtain rfl : k = ff.length := by omega
        obtain ⟨hT, hall, _⟩ := HL.out
        simp only [List.take_length] at hT hall
        have hT := hT
        generalize hLL : ff.foldl clrF (left0 ⟨kind, who, n, at_, is, mask, op, body, keeps⟩) = L at hT
        generalize hSS : (fw :: ff.map fun c => Lib.itoa (getF c ⟨kind, who, n, at_, is, mask, op, body, keeps⟩)) = strs at hT
        have HLL := hidd hLL; have HSS := hidd hSS; have HT := hidd hT; have Hall := hidd hall
        clear hLL hSS hT hall HL HLT Hcs Hcsj hconv
        have f3 : wr.cell? ⟨b, 3, none⟩ = some (.int .u8 fr.toNat) := by have h := HT.out.form; simp [World.cell?, h]
        go_upto_block 3 with fail
        have hsl5 : strs.length ≤ 1000 := by rw [← HSS.out]; simp only [List.length_cons, List.length_map]; omega
        go_cut [8] (fun s8 wx => RT w wx b ⟨kind, who, n, at_, is, mask, op, body, keeps⟩ L (.slice Ab body.length cb) (.slice Ak keeps.length ck) ⟨fw, fk, fi, ff, fr⟩ s8 strs)
        case first =>
          by_cases h98 : fr = 98
          · subst h98
            obtain ⟨v0, q1⟩ : ∃ v, wr.cell? ⟨b + 1 + 1, 7, none⟩ = some v := by have h := HT.out.left; exact ⟨_, by simp [World.cell?, h, Dd.cells]; rfl⟩
            have q2 : wr.frozen? ⟨b + 1 + 1, 7, none⟩ = false := free_of_cells HT.out.left 7
            have hT1 := HT.out.set 7 (.slice none 0 0) (left' := L) (lb' := .slice none 0 0) (lk' := .slice Ak keeps.length ck) (by simp [Dd.cells])
            have q3 : (wr.setCell ⟨b + 1 + 1, 7, none⟩ (.slice none 0 0)).cell? ⟨w.heap.size, 7, none⟩ = some (.slice Ab body.length cb) := by have h := hT1.deed; simp only [World.cell?, h]; simp [Dd.cells]
            have HT1 := hidd hT1; clear hT1
            have Q3 := hidd q3; clear q3
            have hnb2 : ¬ w.heap.size = b + 1 + 1 := by omega
            by_cases he : body = []
            · subst he
              have q4 : wr.cell? ⟨w.heap.size, 7, none⟩ = some (.slice Ab 0 cb) := by have h := HT.out.deed; simp [World.cell?, h, Dd.cells]
              have hout : RT w (wr.setCell ⟨b + 1 + 1, 7, none⟩ (.slice none 0 0)) b ⟨kind, who, n, at_, is, mask, op, [], keeps⟩ L (.slice Ab 0 cb) (.slice Ak keeps.length ck) ⟨fw, fk, fi, ff, 98⟩ u8 strs :=
                ⟨_, _, _, _, _, _, by simpa [restOf] using HT1.out, by simp, by simp⟩
              have Hout := hidd hout; clear hout
              go_wp2_with (fail)
              go_meet
              exact Hout.out
            · have hpos : 0 < body.length := List.length_pos_iff.2 he
              have q4 : wr.cell? ⟨w.heap.size, 7, none⟩ = some (.slice Ab body.length cb) := by have h := HT.out.deed; simp [World.cell?, h, Dd.cells]
              have hsl : Sl (wr.setCell ⟨b + 1 + 1, 7, none⟩ (.slice none 0 0)) (.slice Ab body.length cb) (byteCells body) := Hvb.out.below HT1.out.below
              have Hsl := hidd hsl; clear hsl
              go_wp2_with (fail)
              refine (hexOf_any body _ _ Hsl.out hbl).mono ?_
              rintro e w5 ⟨rfl, hb5⟩
              have hT5 := HT1.out.belowT hb5
              have hown5 := hT5.words
              have hw5 : b + 1 ≤ w5.heap.size := by have := lt_of_block hT5.left; omega
              have HT5 := hidd hT5; clear hT5
              go_wp2_with (at_builtin; refine wpList_append_own _ rfl _ _ 39 rfl (b + 1) 9 i0 (.string { data := #[] }) 1 16 Tryd.underlying39 hi hz0 hz1 hz2 rfl (by decide) _ _ _ rfl (hown5.alloc _) ⟨w5.heap.size, 0, none⟩ 1 1 [.string ⟨(hexF body).toArray⟩] rfl rfl (cell_one_new _ _ _) (one_string _) (by unfold maxLen; omega) (by omega) (Nat.le_trans hw5 (by simp)) ?_; intro v' w6 hown' hgrow _)
              have hT6 := HT5.out.app hown' hgrow
              clear hown' hgrow hown5
              have hout : RT w w6 b ⟨kind, who, n, at_, is, mask, op, body, keeps⟩ L (.slice Ab body.length cb) (.slice Ak keeps.length ck) ⟨fw, fk, fi, ff, 98⟩ v' strs :=
                ⟨_, _, _, _, _, _, by simpa [restOf, he] using hT6, by simp, by simp⟩
              have Hout := hidd hout; clear hout hT6
              go_wp2_with (fail)
              go_meet
              exact Hout.out
          · have e98 : ((fr.toNat : Int) == 98) = false := beq_eq_false_iff_ne.2 (fun h => h98 (UInt8.toNat_inj.1 (Int.ofNat_inj.1 h)))
            by_cases h107 : fr = 107
            · subst h107
              obtain ⟨v0, q1⟩ : ∃ v, wr.cell? ⟨b + 1 + 1, 8, none⟩ = some v := by have h := HT.out.left; exact ⟨_, by simp [World.cell?, h, Dd.cells]; rfl⟩
              have q2 : wr.frozen? ⟨b + 1 + 1, 8, none⟩ = false := free_of_cells HT.out.left 8
              have hT1 := HT.out.set 8 (.slice none 0 0) (left' := L) (lb' := .slice Ab body.length cb) (lk' := .slice none 0 0) (by simp [Dd.cells])
              have q3 : (wr.setCell ⟨b + 1 + 1, 8, none⟩ (.slice none 0 0)).cell? ⟨w.heap.size, 8, none⟩ = some (.slice Ak keeps.length ck) := by have h := hT1.deed; simp only [World.cell?, h]; simp [Dd.cells]
              have HT1 := hidd hT1; clear hT1
              have Q3 := hidd q3; clear q3
              have hnb2 : ¬ w.heap.size = b + 1 + 1 := by omega
              by_cases he : keeps = []
              · subst he
                have q4 : wr.cell? ⟨w.heap.size, 8, none⟩ = some (.slice Ak 0 ck) := by have h := HT.out.deed; simp [World.cell?, h, Dd.cells]
                have hout : RT w (wr.setCell ⟨b + 1 + 1, 8, none⟩ (.slice none 0 0)) b ⟨kind, who, n, at_, is, mask, op, body, []⟩ L (.slice Ab body.length cb) (.slice Ak 0 ck) ⟨fw, fk, fi, ff, 107⟩ u8 strs :=
                  ⟨_, _, _, _, _, _, by simpa [restOf] using HT1.out, by simp, by simp⟩
                have Hout := hidd hout; clear hout
                go_wp2_with (fail)
                go_meet
                exact Hout.out
              · have hpos : 0 < keeps.length := List.length_pos_iff.2 he
                have q4 : wr.cell? ⟨w.heap.size, 8, none⟩ = some (.slice Ak keeps.length ck) := by have h := HT.out.deed; simp [World.cell?, h, Dd.cells]
                have hsl : Sl (wr.setCell ⟨b + 1 + 1, 8, none⟩ (.slice none 0 0)) (.slice Ak keeps.length ck) (keeps.map .bool) := Hvk.out.below HT1.out.below
                have Hsl := hidd hsl; clear hsl
                go_wp2_with (fail)
                refine (marks_any keeps _ _ Hsl.out hkl).mono ?_
                rintro e w5 ⟨rfl, hb5⟩
                have hT5 := HT1.out.belowT hb5
                have hown5 := hT5.words
                have hw5 : b + 1 ≤ w5.heap.size := by have := lt_of_block hT5.left; omega
                have HT5 := hidd hT5; clear hT5
                go_wp2_with (at_builtin; refine wpList_append_own _ rfl _ _ 39 rfl (b + 1) 9 i0 (.string { data := #[] }) 1 16 Tryd.underlying39 hi hz0 hz1 hz2 rfl (by decide) _ _ _ rfl (hown5.alloc _) ⟨w5.heap.size, 0, none⟩ 1 1 [.string ⟨(marksF keeps).toArray⟩] rfl rfl (cell_one_new _ _ _) (one_string _) (by unfold maxLen; omega) (by omega) (Nat.le_trans hw5 (by simp)) ?_; intro v' w6 hown' hgrow _)
                have hT6 := HT5.out.app hown' hgrow
                clear hown' hgrow hown5
                have hout : RT w w6 b ⟨kind, who, n, at_, is, mask, op, body, keeps⟩ L (.slice Ab body.length cb) (.slice Ak keeps.length ck) ⟨fw, fk, fi, ff, 107⟩ v' strs :=
                  ⟨_, _, _, _, _, _, by simpa [restOf, he] using hT6, by simp, by simp⟩
                have Hout := hidd hout; clear hout hT6
                go_wp2_with (fail)
                go_meet
                exact Hout.out
            · have e107 : ((fr.toNat : Int) == 107) = false := beq_eq_false_iff_ne.2 (fun h => h107 (UInt8.toNat_inj.1 (Int.ofNat_inj.1 h)))
              have hout : RT w wr b ⟨kind, who, n, at_, is, mask, op, body, keeps⟩ L (.slice Ab body.length cb) (.slice Ak keeps.length ck) ⟨fw, fk, fi, ff, fr⟩ u8 strs :=
                ⟨_, _, _, _, _, _, by simpa [restOf, h98, h107] using HT.out, by simp [h98], by simp [h107]⟩
              have Hout := hidd hout; clear hout
              go_wp2_with (fail)
              go_meet
              exact Hout.out
        case rest =>
          obtain ⟨A, nb, cb', A', nk, ck', hT, hnb, hnk⟩ := hcut
          have hbelow := hT.below
          have hbad : (L.bare && restOk ⟨fw, fk, fi, ff, fr⟩ ⟨kind, who, n, at_, is, mask, op, body, keeps⟩) = false → textF ⟨kind, who, n, at_, is, mask, op, body, keeps⟩ = .error 2 := fun h => text_err Hf.out (by
            rw [HLL.out, Bool.and_assoc, h, Bool.and_false])
          have hnb0 : nb ≠ 0 → restOk ⟨fw, fk, fi, ff, fr⟩ ⟨kind, who, n, at_, is, mask, op, body, keeps⟩ = false := fun h => by
            unfold restOk; rw [Bool.and_eq_false_iff]; left
            rw [Bool.or_eq_false_iff]
            simp only at hnb
            split at hnb
            · exact absurd hnb h
            · rename_i h98; exact ⟨by cases body; exact absurd hnb h; rfl, by simpa using h98⟩
          have hnk0 : nk ≠ 0 → restOk ⟨fw, fk, fi, ff, fr⟩ ⟨kind, who, n, at_, is, mask, op, body, keeps⟩ = false := fun h => by
            unfold restOk; rw [Bool.and_eq_false_iff]; right
            rw [Bool.or_eq_false_iff]
            simp only at hnk
            split at hnk
            · exact absurd hnk h
            · rename_i h107; exact ⟨by cases keeps; exact absurd hnk h; rfl, by simpa using h107⟩
          have hok0 : nb = 0 → nk = 0 → restOk ⟨fw, fk, fi, ff, fr⟩ ⟨kind, who, n, at_, is, mask, op, body, keeps⟩ = true := fun h h' => by
            unfold restOk; rw [Bool.and_eq_true, Bool.or_eq_true, Bool.or_eq_true]
            simp only at hnb hnk
            constructor
            · split at hnb
              · rename_i h98; right; simpa using h98
              · left; rw [List.isEmpty_iff]; exact List.eq_nil_of_length_eq_zero (hnb.symm.trans h)
            · split at hnk
              · rename_i h107; right; simpa using h107
              · left; rw [List.isEmpty_iff]; exact List.eq_nil_of_length_eq_zero (hnk.symm.trans h')
          have HT2 := hidd hT; have Hbad := hidd hbad; have Hnb0 := hidd hnb0; have Hnk0 := hidd hnk0; have Hok0 := hidd hok0
          clear hT hbad hnb0 hnk0 hok0 hnb hnk f3 HT
          obtain ⟨lkind, lwho, ln, lat, lis, lmask, lop, lbody, lkeeps⟩ := L
          have p1 : wc.cell? ⟨b + 1 + 1, 1, none⟩ = some (.int .i64 lwho) := by have h := HT2.out.left; simp [World.cell?, h, Dd.cells]
          have p2 : wc.cell? ⟨b + 1 + 1, 2, none⟩ = some (.int .i64 ln) := by have h := HT2.out.left; simp [World.cell?, h, Dd.cells]
          have p3 : wc.cell? ⟨b + 1 + 1, 3, none⟩ = some (.int .i64 lat) := by have h := HT2.out.left; simp [World.cell?, h, Dd.cells]
          have p4 : wc.cell? ⟨b + 1 + 1, 4, none⟩ = some (.bool lis) := by have h := HT2.out.left; simp [World.cell?, h, Dd.cells]
          have p5 : wc.cell? ⟨b + 1 + 1, 5, none⟩ = some (.int .u8 lmask) := by have h := HT2.out.left; simp [World.cell?, h, Dd.cells]
          have p6 : wc.cell? ⟨b + 1 + 1, 6, none⟩ = some (.int .i64 lop) := by have h := HT2.out.left; simp [World.cell?, h, Dd.cells]
          have p7 : wc.cell? ⟨b + 1 + 1, 7, none⟩ = some (.slice A nb cb') := by have h := HT2.out.left; simp [World.cell?, h, Dd.cells]
          have p8 : wc.cell? ⟨b + 1 + 1, 8, none⟩ = some (.slice A' nk ck') := by have h := HT2.out.left; simp [World.cell?, h, Dd.cells]
          by_cases h1 : lwho = 0
          case neg =>
            have Herr := hidd (Hbad.out (by simp [Dd.bare, h1]))
            have g1 : (lwho != 0) = true := by rw [bne_iff_ne]; omega
            clear h1
            go_wp2_with (fail)
            go_ret2
            exact textPost_err Herr.out rfl hbelow
          subst h1
          by_cases h2 : ln = 0
          case neg =>
            have Herr := hidd (Hbad.out (by simp [Dd.bare, h2]))
            have g2 : (ln != 0) = true := by rw [bne_iff_ne]; omega
            clear h2
            go_wp2_with (fail)
            go_ret2
            exact textPost_err Herr.out rfl hbelow
          subst h2
          by_cases h3 : lat = 0
          case neg =>
            have Herr := hidd (Hbad.out (by simp [Dd.bare, h3]))
            have g3 : (lat != 0) = true := by rw [bne_iff_ne]; omega
            clear h3
            go_wp2_with (fail)
            go_ret2
            exact textPost_err Herr.out rfl hbelow
          subst h3
          cases lis with
          | true =>
            have Herr := hidd (Hbad.out (by simp [Dd.bare]))
            go_wp2_with (fail)
            go_ret2
            exact textPost_err Herr.out rfl hbelow
          | false =>
            by_cases h5 : lmask = 0
            case neg =>
              have Herr := hidd (Hbad.out (by simp [Dd.bare, h5]))
              have g5 : ((lmask : Int) != 0) = true := by rw [bne_iff_ne]; omega
              clear h5
              go_wp2_with (fail)
              go_ret2
              exact textPost_err Herr.out rfl hbelow
            subst h5
            by_cases h6 : lop = 0
            case neg =>
              have Herr := hidd (Hbad.out (by simp [Dd.bare, h6]))
              have g6 : (lop != 0) = true := by rw [bne_iff_ne]; omega
              clear h6
              go_wp2_with (fail)
              go_ret2
              exact textPost_err Herr.out rfl hbelow
            subst h6
            by_cases h7 : nb = 0
            case neg =>
              have Herr := hidd (Hbad.out (by rw [Hnb0.out h7, Bool.and_false]))
              have g7 : (0 : Int) < (nb : Int) := by omega
              clear h7
              go_wp2_with (fail)
              go_ret2
              exact textPost_err Herr.out rfl hbelow
            subst h7
            by_cases h8 : nk = 0
            case neg =>
              have Herr := hidd (Hbad.out (by rw [Hnk0.out h8, Bool.and_false]))
              have g8 : (0 : Int) < (nk : Int) := by omega
              clear h8
              go_wp2_with (fail)
              go_ret2
              exact textPost_err Herr.out rfl hbelow
            subst h8
            have hgood : (ff.all (fun c => numOk (getF c ⟨kind, who, n, at_, is, mask, op, body, keeps⟩)) && (ff.foldl clrF (left0 ⟨kind, who, n, at_, is, mask, op, body, keeps⟩)).bare && restOk ⟨fw, fk, fi, ff, fr⟩ ⟨kind, who, n, at_, is, mask, op, body, keeps⟩) = true := by
              rw [HLL.out, Hall.out, Hok0.out rfl rfl]; rfl
            have Hgood := hidd hgood; clear hgood
            have hwords : strs ++ restOf ⟨fw, fk, fi, ff, fr⟩ ⟨kind, who, n, at_, is, mask, op, body, keeps⟩ = wordsOf ⟨fw, fk, fi, ff, fr⟩ ⟨kind, who, n, at_, is, mask, op, body, keeps⟩ := by rw [← HSS.out]; rfl
            obtain ⟨g, cap, hs8, hgl, hcap, hcells⟩ := words_cells HT2.out.words (by simp [← HSS.out])
            subst hs8
            have hjl := wordsOf_length ⟨fw, fk, fi, ff, fr⟩ ⟨kind, who, n, at_, is, mask, op, body, keeps⟩ hfl hfwl (by intro c hc; have := List.all_eq_true.1 Hall.out c hc; simpa [numOk] using this) hbl hkl
            have hl1 : (strs ++ restOf ⟨fw, fk, fi, ff, fr⟩ ⟨kind, who, n, at_, is, mask, op, body, keeps⟩).length = strs.length + (restOf ⟨fw, fk, fi, ff, fr⟩ ⟨kind, who, n, at_, is, mask, op, body, keeps⟩).length := List.length_append
            have hl2 : (Lib.join (strs ++ restOf ⟨fw, fk, fi, ff, fr⟩ ⟨kind, who, n, at_, is, mask, op, body, keeps⟩) [32]).length ≤ 140737488355328 := by rw [hwords]; omega
            have hl3 : (strs ++ restOf ⟨fw, fk, fi, ff, fr⟩ ⟨kind, who, n, at_, is, mask, op, body, keeps⟩).length ≤ 100000 := by rw [List.length_append]; have := restOf_length ⟨fw, fk, fi, ff, fr⟩ ⟨kind, who, n, at_, is, mask, op, body, keeps⟩; omega
            have hcap2 : strs.length + (restOf ⟨fw, fk, fi, ff, fr⟩ ⟨kind, who, n, at_, is, mask, op, body, keeps⟩).length ≤ cap := by rw [← hl1]; exact hcap
            have Hl1 := hidd hl1; have Hl2 := hidd hl2; have Hl3 := hidd hl3
            clear hl1 hl2 hl3
            have Hw := hidd hwords; have Hcells := hidd hcells; have Hjl := hidd hjl
            clear hwords hcells hjl
            go_wp2_with (fail)
            refine (join_any g cap _ (strs ++ restOf ⟨fw, fk, fi, ff, fr⟩ ⟨kind, who, n, at_, is, mask, op, body, keeps⟩) wc Hl1.out hgl hcap2 Hcells.out Hl2.out Hl3.out).mono ?_
            rintro e w9 ⟨rfl, hb9⟩
            rw [Hw.out]
            have hbelow9 := hbelow.trans (hb9.mono hbelow.size)
            generalize hJ : Lib.join (wordsOf ⟨fw, fk, fi, ff, fr⟩ ⟨kind, who, n, at_, is, mask, op, body, keeps⟩) [32] = J
            have hsz9 : (⟨J.toArray⟩ : ByteArray).size = J.length := by show J.toArray.size = _; simp
            have HJ := hidd hJ; clear hJ
            by_cases hlong : 2200 < J.length
            · have htx : textF ⟨kind, who, n, at_, is, mask, op, body, keeps⟩ = .error 3 := text_long Hf.out Hgood.out (by rw [HJ.out]; exact hlong)
              have Htx := hidd htx; clear htx
              have g9 : (2200 : Int) < ((⟨J.toArray⟩ : ByteArray).size : Int) := by rw [hsz9]; omega
              go_wp2_with (fail)
              go_ret2
              exact textPost_err Htx.out rfl hbelow9
            · have htx : textF ⟨kind, who, n, at_, is, mask, op, body, keeps⟩ = .ok J := by rw [← HJ.out]; exact text_fine Hf.out Hgood.out (by rw [HJ.out]; exact hlong)
              have Htx := hidd htx; clear htx
              have g9 : ¬ (2200 : Int) < ((⟨J.toArray⟩ : ByteArray).size : Int) := by rw [hsz9]; omega
              go_wp2_with (fail)
              go_ret2
              exact textPost_ok Htx.out rfl hbelow9
end Go.Proofs.YtojmimpaecpiaaaDoor
