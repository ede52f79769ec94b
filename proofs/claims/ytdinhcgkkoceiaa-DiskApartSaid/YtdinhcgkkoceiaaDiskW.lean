/- The walk of package disk's Write. -/
import Derived.Test.YtdinhcgkkoceiaaDiskP
import Derived.Test.YtdinhcgkkoceiaaRegionF
namespace Go.Proofs.Ytdinhcgkkoceiaa
open Go.RowKit

def wtail : PT := .alone 14 (.alone 15 .nil)
def wtree : PT := .still 0 (.still 1 (.still 2 (.still 3 (.still 4 (.still 5 (.still 6 (.still 7 (.still 8 (.still 9 (.still 11 (.fork 10 (.alone 12 (.alone 13 (.alone 14 (.alone 15 .nil)))) 12 (.fork 10 (.alone 13 (.alone 14 (.alone 15 .nil))) 13 (.alone 10 (.alone 14 (.alone 15 .nil)))))))))))))))

set_option maxRecDepth 100000 in
set_option maxHeartbeats 4000000 in
theorem dwrite_ok (p : Nat) (F : Nat → Prop) (q : Nat) (S : Nat → List UInt8) (C : Nat → List (List UInt8)) (k : Nat) (i : Nat) (hi : i < 34) (A : Option Addr) (l : List UInt8) (n c : Nat) (w : World)
    (hD : Dk w p F q S C k false) (hA : At w A (bs l)) (hn : n = l.length) (hl : l.length ≤ 64) (hq : q < 1000000) (hk : k < 1000000) (hC : (C i).length < 1000000) :
    Calls Try.prog 12 #[.pointer (some ⟨p, 0, none⟩), .int .i64 i, .slice A n c] w fun e w' => ∃ F', e = .returned (.int .i64 0) ∧ Dk w' p F' (q + 1) S (cput C i (pad l)) (k + 1) false ∧ Chg F w w' ∧ (∀ g, F' g → F g ∨ w.heap.size ≤ g) := by
  obtain ⟨ms, mc, fS, fC, qS, qC, h⟩ := hD
  obtain ⟨xs, hrow, hxs, hvb⟩ := h.row i hi
  have hwI : (kI (i : Int)).wf = true := wfI (by omega) (by omega)
  have hz : ∀ w', (zeroValue 52).run Try.prog w' = .ok nilS w' := fun w' => by kernel_rfl
  obtain ⟨v0, hv0⟩ : ∃ v0, v0 = (fC (i : Int)).getD nilS := ⟨_, rfl⟩
  have hlook : ∀ w', Below w.heap.size w w' → (Instr.lookup 44 (.map (some mc)) (.int .i64 (i : Int)) false).run Try.prog w' = .ok v0 w' := by
    intro w' hb
    rw [hv0]
    exact (h.keep hb).cache.look Try.underlying3 Try.underlying44 (hz w') hwI
  have hcell : ∀ w', Below w.heap.size w w' → w'.cell? ⟨p, 1, none⟩ = some (.map (some mc)) := fun w' hb => (h.keep hb).blk.cell 1
  have HH := Lib.hid h
  have Hrow := Lib.hid hrow
  have Hxs := Lib.hid hxs
  have Hvb := Lib.hid hvb
  have Hn := Lib.hid hn
  have HA := Lib.hid hA
  have Hl := Lib.hid hl
  have HwI := Lib.hid hwI
  have Hv0 := Lib.hid hv0
  have HC := Lib.hid hC
  have h0 : (0 : Int) ≤ (i : Int) := by omega
  have h34 : (i : Int) < 34 := by omega
  have hk1 : (k : Int) < 1000000 := by omega
  have hn64 : ¬ ((64 : Int) < (n : Int)) := by omega
  have Hqs := Lib.hid h.qs
  have hbd : Below w.heap.size w w.drew := (Below.refl _ _).drew
  have hpF := h.fl p h.fp
  have HLook := Lib.hid hlook
  have HCell := Lib.hid hcell
  have HK := Lib.hid hk
  have HQ := Lib.hid hq
  clear h hrow hxs hvb hn hA hl hwI hv0 hC hz hlook hcell hbd hpF hk hq hk1
  go_enter Try.func12, Try.ntmps12
  go_wp2_with fail
  refine (up_ok p ms mc k i _ HH.out.blk h0 h34).mono ?_
  rintro e w' ⟨rfl, rfl⟩
  go_wp2_with fail
  have hbd : Below w.heap.size w w.drew := (Below.refl _ _).drew
  have hlook := HLook.out
  have hcell := HCell.out
  have hS0 : w.drew.cell? ⟨p, 1, none⟩ = some (.map (some mc)) := hcell _ hbd
  refine region_tree (S := fun w' => w'.cell? ⟨p, 1, none⟩ = some (.map (some mc))) wtree (by kernel_rfl) (by kernel_rfl) (by kernel_rfl) (by decide) hS0 ?_
  unfold wtree
  iterate 11
    refine tree_still2 (v := ?_) (a' := ?_) rfl (by rfl) (fun w' hS' => ?_) ?_ ?_
    rotate_left 2
    (focus (simp only [nth_succ, nth_zero]; go_simp <;> with_reducible rfl))
    (focus (simp only [nth_succ, nth_zero, Act.put, List.setIfInBounds_toArray, List.set_cons_zero, List.set_cons_succ] <;> rfl))
  refine tree_fork rfl (by rfl) (by rfl) (fun K hK => ?_) (fun K hK => ?_)
  · simp only [nth_succ, nth_zero]
    have hlk := hlook _ hbd
    go_simp
    refine hK.out _ _ (hcell _ hbd) ?_
    clear hK K hlk
    refine tree_alone rfl (by rfl) (fun K hK => ?_)
    simp only [nth_succ, nth_zero]
    go_simp
    refine (sector_any A l n c _ (HA.out.below hbd (Nat.le_refl _)) Hn.out Hl.out).mono ?_
    rintro e w1 ⟨rfl, hB1, hb1⟩
    have hbw1 : Below w.heap.size w w1 := hbd.trans hb1
    refine hK.out _ _ (hcell _ hbw1) ?_
    clear hK K
    refine tree_alone rfl (by rfl) (fun K hK => ?_)
    simp only [nth_succ, nth_zero]
    go_simp
    have hbw2 : Below w.heap.size w (w1.alloc (.cells #[.slice (some ⟨w.heap.size, 0, none⟩) 64 64] 27)) := hbw1.alloc hbw1.size _
    refine hK.out _ _ (hcell _ hbw2) ?_
    clear hK K
    refine tree_alone rfl (by rfl) (fun K hK => ?_)
    simp only [nth_succ, nth_zero]
    refine wp_app_own (.tmp 27) (.tmp 30) rowsTyD rfl 0 v0 (C i).length xs rfl (by have := own_below Hrow.out hbw2; rw [Hv0.out]; exact this) (some ⟨w1.heap.size, 0, none⟩) 1 1 [.slice (some ⟨w.heap.size, 0, none⟩) 64 64] rfl (at_new _ _ _ _) rfl (by intro u hu; simp only [List.mem_singleton] at hu; subst hu; rfl) (by have := HC.out; unfold maxLen; omega) (by have := HC.out; omega) (Nat.zero_le _) ?_
    intro v' w3 hown3 hg3 hat3
    simp only [Act.put, List.setIfInBounds_toArray, List.set_cons_zero, List.set_cons_succ]
    have hc3 : Chg (fun g => v0.ownBlock = some g) (w1.alloc (.cells #[.slice (some ⟨w.heap.size, 0, none⟩) 64 64] 27)) w3 := ⟨hg3.os, hg3.tape, hg3.output, hg3.size, fun g hg hn => hg3.block g hg (fun e => hn e.symm)⟩
    have hB3 := (HH.out.keep hbw2).blk.chg hc3 (fun hg => (Hvb.out p (by rw [← Hv0.out]; exact hg)).2.1 rfl)
    have hM3 := (HH.out.keep hbw2).cache.chg hc3 (fun hg => (Hvb.out mc (by rw [← Hv0.out]; exact hg)).2.2.2 rfl)
    refine hK.out _ _ (hB3.cell 1) ?_
    clear hK K
    obtain ⟨w4, hst, hM4, hg4, hs4⟩ := hM3.store (t := 44) (e := 52) Try.underlying3 Try.underlying44 (by have := Hqs.out; have := HQ.out; unfold maxLen; omega) HwI.out v'
    have hB4 := hB3.chg (Chg.of_grown (G := fun g => g = mc) hg4 rfl) HH.out.pmc
    refine tree_alone rfl (by rfl) (fun K hK => ?_)
    simp only [nth_succ, nth_zero]
    go_simp
    refine hK.out _ _ (hB4.cell 1) ?_
    clear hK K hst
    refine tree_nil ?_
    have c2 : w4.cell? ⟨p, 2, none⟩ = some (.int .i64 (k : Int)) := hB4.cell 2
    have f2 := hB4.frozen 2
    obtain ⟨F', d1, d2, d3⟩ := dk_write HH.out hi (pad_length Hl.out) Hrow.out Hxs.out Hvb.out hbw1 (Nat.le_refl _) hB1 ((Below.refl _ _).alloc (Nat.le_refl _) (.cells #[.slice (some ⟨w.heap.size, 0, none⟩) 64 64] 27)) (by have hlt1 : w.heap.size < w1.heap.size := hB1.lt; simp; omega) hown3 (by rw [← Hv0.out]; exact hg3) (by rw [← Hv0.out]; exact hat3) hM4 hg4
    have D1 := Lib.hid d1
    have D2 := Lib.hid d2
    have D3 := Lib.hid d3
    have hk1 : (k : Int) < 1000000 := by have := HK.out; omega
    clear d1 d2 d3 hown3 hg3 hat3 hc3 hB3 hM3 hM4 hg4 hB4 hlook hcell
    go_wp2_with fail
    go_ret
    exact ⟨F', rfl, D1.out, D2.out, D3.out⟩
  · simp only [nth_succ, nth_zero]
    go_simp
    refine (sector_any A l n c _ (HA.out.below hbd (Nat.le_refl _)) Hn.out Hl.out).mono ?_
    rintro e w1 ⟨rfl, hB1, hb1⟩
    have hbw1 : Below w.heap.size w w1 := hbd.trans hb1
    refine hK.out _ _ (hcell _ hbw1) ?_
    clear hK K
    refine tree_fork rfl (by rfl) (by rfl) (fun K hK => ?_) (fun K hK => ?_)
    · simp only [nth_succ, nth_zero]
      have hlk := hlook _ hbw1
      go_simp
      refine hK.out _ _ (hcell _ hbw1) ?_
      clear hK K hlk
      refine tree_alone rfl (by rfl) (fun K hK => ?_)
      simp only [nth_succ, nth_zero]
      go_simp
      have hbw2 : Below w.heap.size w (w1.alloc (.cells #[.slice (some ⟨w.heap.size, 0, none⟩) 64 64] 27)) := hbw1.alloc hbw1.size _
      refine hK.out _ _ (hcell _ hbw2) ?_
      clear hK K
      refine tree_alone rfl (by rfl) (fun K hK => ?_)
      simp only [nth_succ, nth_zero]
      refine wp_app_own (.tmp 27) (.tmp 30) rowsTyD rfl 0 v0 (C i).length xs rfl (by have := own_below Hrow.out hbw2; rw [Hv0.out]; exact this) (some ⟨w1.heap.size, 0, none⟩) 1 1 [.slice (some ⟨w.heap.size, 0, none⟩) 64 64] rfl (at_new _ _ _ _) rfl (by intro u hu; simp only [List.mem_singleton] at hu; subst hu; rfl) (by have := HC.out; unfold maxLen; omega) (by have := HC.out; omega) (Nat.zero_le _) ?_
      intro v' w3 hown3 hg3 hat3
      simp only [Act.put, List.setIfInBounds_toArray, List.set_cons_zero, List.set_cons_succ]
      have hc3 : Chg (fun g => v0.ownBlock = some g) (w1.alloc (.cells #[.slice (some ⟨w.heap.size, 0, none⟩) 64 64] 27)) w3 := ⟨hg3.os, hg3.tape, hg3.output, hg3.size, fun g hg hn => hg3.block g hg (fun e => hn e.symm)⟩
      have hB3 := (HH.out.keep hbw2).blk.chg hc3 (fun hg => (Hvb.out p (by rw [← Hv0.out]; exact hg)).2.1 rfl)
      have hM3 := (HH.out.keep hbw2).cache.chg hc3 (fun hg => (Hvb.out mc (by rw [← Hv0.out]; exact hg)).2.2.2 rfl)
      refine hK.out _ _ (hB3.cell 1) ?_
      clear hK K
      obtain ⟨w4, hst, hM4, hg4, hs4⟩ := hM3.store (t := 44) (e := 52) Try.underlying3 Try.underlying44 (by have := Hqs.out; have := HQ.out; unfold maxLen; omega) HwI.out v'
      have hB4 := hB3.chg (Chg.of_grown (G := fun g => g = mc) hg4 rfl) HH.out.pmc
      refine tree_alone rfl (by rfl) (fun K hK => ?_)
      simp only [nth_succ, nth_zero]
      go_simp
      refine hK.out _ _ (hB4.cell 1) ?_
      clear hK K hst
      refine tree_nil ?_
      have c2 : w4.cell? ⟨p, 2, none⟩ = some (.int .i64 (k : Int)) := hB4.cell 2
      have f2 := hB4.frozen 2
      obtain ⟨F', d1, d2, d3⟩ := dk_write HH.out hi (pad_length Hl.out) Hrow.out Hxs.out Hvb.out hbw1 (Nat.le_refl _) hB1 ((Below.refl _ _).alloc (Nat.le_refl _) (.cells #[.slice (some ⟨w.heap.size, 0, none⟩) 64 64] 27)) (by have hlt1 : w.heap.size < w1.heap.size := hB1.lt; simp; omega) hown3 (by rw [← Hv0.out]; exact hg3) (by rw [← Hv0.out]; exact hat3) hM4 hg4
      have D1 := Lib.hid d1
      have D2 := Lib.hid d2
      have D3 := Lib.hid d3
      have hk1 : (k : Int) < 1000000 := by have := HK.out; omega
      clear d1 d2 d3 hown3 hg3 hat3 hc3 hB3 hM3 hM4 hg4 hB4 hlook hcell
      go_wp2_with fail
      go_ret
      exact ⟨F', rfl, D1.out, D2.out, D3.out⟩
    · simp only [nth_succ, nth_zero]
      go_simp
      have hbw2 : Below w.heap.size w (w1.alloc (.cells #[.slice (some ⟨w.heap.size, 0, none⟩) 64 64] 27)) := hbw1.alloc hbw1.size _
      refine hK.out _ _ (hcell _ hbw2) ?_
      clear hK K
      refine tree_alone rfl (by rfl) (fun K hK => ?_)
      simp only [nth_succ, nth_zero]
      have hlk := hlook _ (hbw2)
      go_simp
      refine hK.out _ _ (hcell _ (hbw2)) ?_
      clear hK K hlk
      refine tree_alone rfl (by rfl) (fun K hK => ?_)
      simp only [nth_succ, nth_zero]
      refine wp_app_own (.tmp 27) (.tmp 30) rowsTyD rfl 0 v0 (C i).length xs rfl (by have := own_below Hrow.out hbw2; rw [Hv0.out]; exact this) (some ⟨w1.heap.size, 0, none⟩) 1 1 [.slice (some ⟨w.heap.size, 0, none⟩) 64 64] rfl (at_new _ _ _ _) rfl (by intro u hu; simp only [List.mem_singleton] at hu; subst hu; rfl) (by have := HC.out; unfold maxLen; omega) (by have := HC.out; omega) (Nat.zero_le _) ?_
      intro v' w3 hown3 hg3 hat3
      simp only [Act.put, List.setIfInBounds_toArray, List.set_cons_zero, List.set_cons_succ]
      have hc3 : Chg (fun g => v0.ownBlock = some g) (w1.alloc (.cells #[.slice (some ⟨w.heap.size, 0, none⟩) 64 64] 27)) w3 := ⟨hg3.os, hg3.tape, hg3.output, hg3.size, fun g hg hn => hg3.block g hg (fun e => hn e.symm)⟩
      have hB3 := (HH.out.keep hbw2).blk.chg hc3 (fun hg => (Hvb.out p (by rw [← Hv0.out]; exact hg)).2.1 rfl)
      have hM3 := (HH.out.keep hbw2).cache.chg hc3 (fun hg => (Hvb.out mc (by rw [← Hv0.out]; exact hg)).2.2.2 rfl)
      refine hK.out _ _ (hB3.cell 1) ?_
      clear hK K
      obtain ⟨w4, hst, hM4, hg4, hs4⟩ := hM3.store (t := 44) (e := 52) Try.underlying3 Try.underlying44 (by have := Hqs.out; have := HQ.out; unfold maxLen; omega) HwI.out v'
      have hB4 := hB3.chg (Chg.of_grown (G := fun g => g = mc) hg4 rfl) HH.out.pmc
      refine tree_alone rfl (by rfl) (fun K hK => ?_)
      simp only [nth_succ, nth_zero]
      go_simp
      refine hK.out _ _ (hB4.cell 1) ?_
      clear hK K hst
      refine tree_nil ?_
      have c2 : w4.cell? ⟨p, 2, none⟩ = some (.int .i64 (k : Int)) := hB4.cell 2
      have f2 := hB4.frozen 2
      obtain ⟨F', d1, d2, d3⟩ := dk_write HH.out hi (pad_length Hl.out) Hrow.out Hxs.out Hvb.out hbw1 (Nat.le_refl _) hB1 ((Below.refl _ _).alloc (Nat.le_refl _) (.cells #[.slice (some ⟨w.heap.size, 0, none⟩) 64 64] 27)) (by have hlt1 : w.heap.size < w1.heap.size := hB1.lt; simp; omega) hown3 (by rw [← Hv0.out]; exact hg3) (by rw [← Hv0.out]; exact hat3) hM4 hg4
      have D1 := Lib.hid d1
      have D2 := Lib.hid d2
      have D3 := Lib.hid d3
      have hk1 : (k : Int) < 1000000 := by have := HK.out; omega
      clear d1 d2 d3 hown3 hg3 hat3 hc3 hB3 hM3 hM4 hg4 hB4 hlook hcell
      go_wp2_with fail
      go_ret
      exact ⟨F', rfl, D1.out, D2.out, D3.out⟩
end Go.Proofs.Ytdinhcgkkoceiaa
