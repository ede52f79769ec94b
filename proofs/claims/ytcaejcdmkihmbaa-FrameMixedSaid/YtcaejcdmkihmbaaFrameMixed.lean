/- The walk of the law FrameMixed. -/
import Derived.Test.YtcaejcdmkihmbaaFrameW
import Derived.Test.YtcaejcdmkihmbaaSumsRef
import Derived.Test.YtcaejcdmkihmbaaMemBuild2
namespace Go.Proofs.Ytcaejcdmkihmbaa
open Go.RowKit

set_option maxRecDepth 100000 in
set_option maxHeartbeats 2000000 in
theorem fmixed_great (A B : Option Addr) (n c m d : Nat) (seq inc other : Int) (w : World) (hn : 90 < n ∨ 90 < m) :
    Calls Try.prog 3 #[.slice A n c, .slice B m d, .int .i64 seq, .int .i64 inc, .int .i64 other] w fun e w' => e = .returned (.bool true) ∧ Below w.heap.size w w' := by
  have hcase : (90 : Int) < (n : Int) ∨ (¬ ((90 : Int) < (n : Int)) ∧ (90 : Int) < (m : Int)) := by omega
  clear hn
  rcases hcase with h1 | ⟨h1, h2⟩
  all_goals
    go_enter Try.func3, Try.ntmps3
    go_wp2_with fail
    refine (wakes4_any _).mono ?_
    rintro e w2 ⟨rfl, hb2⟩
    go_wp2_with fail
    go_ret
    exact ⟨rfl, hb2⟩

/-- what a cut gives, or does not: in one word -/
theorem cut_all (A : Option Addr) (l : List UInt8) (n c : Nat) (seq inc : Int) (w : World) (hA : At w A (bs l)) (hn : n = l.length) (hc : n ≤ c) (hn90 : n ≤ 1000) (hs1 : -9223372036854775808 ≤ seq) (hs2 : seq ≤ 9223372036854775807) :
    Calls Try.prog 8 #[.slice A n c, .int .i64 seq, .int .i64 inc] w fun e w' => ((∃ x : Int, e = .returned (.tuple #[.slice none 0 0, .int .i64 x]) ∧ x ≠ 0) ∨
      (∃ g d L, e = .returned (.tuple #[.slice (some ⟨g, 0, none⟩) L.length d, .int .i64 0]) ∧ L.map FV.f = Fr.cut l seq inc ∧ L.length ≤ d ∧ At w' (some ⟨g, 0, none⟩) (fcells L) ∧ Reads w' L ∧ Fr.cutOk l.length seq inc = true)) ∧ Below w.heap.size w w' := by
  rcases Bool.eq_false_or_eq_true (Fr.cutOk n seq inc) with hok | hok
  · refine (cut_yes A l n c seq inc w hA hn hc hok).mono ?_
    rintro e w' ⟨g, d, L, he, h1, h2, h3, h4, h5, h6⟩
    exact ⟨.inr ⟨g, d, L, he, h1, h2, h4, h5, by rw [← hn]; exact hok⟩, h6⟩
  · refine (cut_no A n c seq inc w hn90 hok hs1 hs2).mono ?_
    rintro e w' ⟨x, he, hx, rfl⟩
    exact ⟨.inl ⟨x, he, hx⟩, Below.refl _ _⟩

theorem cut_two_of {l : List UInt8} {seq inc : Int} {L : List FV} (hL : L.map FV.f = Fr.cut l seq inc) (h2 : L.length = 2) :
    ∃ l0 l1 B d B' d', L = [⟨⟨seq, inc, 0, 2, Crc.sum l, l0⟩, B, d⟩, ⟨⟨seq + 1, inc, 1, 2, Crc.sum l, l1⟩, B', d'⟩] ∧ l0.length ≤ l.length ∧ l1.length ≤ l.length := by
  have hlen : 45 < l.length := by
    have : (Fr.cut l seq inc).length = 2 := by rw [← hL, List.length_map]; exact h2
    rw [cut_len] at this
    split at this <;> omega
  unfold Fr.cut at hL
  rw [if_neg (by omega)] at hL
  obtain ⟨B, d, B', d', h⟩ := two_of hL
  exact ⟨_, _, B, d, B', d', h, by rw [List.length_take]; omega, by rw [List.length_drop]; omega⟩

/-- frames of two records: not joined -/
theorem mixed_no {x y : Fr} {B d B' d'} (h : y.inc ≠ x.inc ∨ y.mark ≠ x.mark ∨ x.part ≠ 0) : ¬ Joins [⟨x, B, d⟩, ⟨y, B', d'⟩] := by
  rintro ⟨z, hz, hg, _⟩
  simp only [List.getElem?_cons_zero, Option.some.injEq] at hz
  subst hz
  have h0 := hg 0 _ rfl
  have h1 := hg 1 _ rfl
  rcases h with h | h | h
  · exact h h1.2.2.2.2.1
  · exact h h1.2.2.2.2.2
  · exact h h0.2.1

set_option maxRecDepth 100000 in
set_option maxHeartbeats 8000000 in
theorem fmixed_main (A B : Option Addr) (l m : List UInt8) (n c k d : Nat) (seq inc other : Int) (w : World) (hA : At w A (bs l)) (hB : At w B (bs m)) (hn : n = l.length) (hk : k = m.length) (hc : n ≤ c) (hd : k ≤ d) (hn90 : n ≤ 90) (hk90 : k ≤ 90) (hs1 : -9223372036854775808 ≤ seq) (hs2 : seq ≤ 9223372036854775807) :
    Calls Try.prog 3 #[.slice A n c, .slice B k d, .int .i64 seq, .int .i64 inc, .int .i64 other] w fun e w' => e = .returned (.bool true) ∧ Below w.heap.size w w' := by
  have HA := Lib.hid hA
  have HB := Lib.hid hB
  have Hn := Lib.hid hn
  have Hk := Lib.hid hk
  have HS1 := Lib.hid hs1
  have HS2 := Lib.hid hs2
  have h1 : ¬ ((90 : Int) < (n : Int)) := by omega
  have h2 : ¬ ((90 : Int) < (k : Int)) := by omega
  clear hA hB hn hk hs1 hs2
  go_enter Try.func3, Try.ntmps3
  go_wp2_with fail
  refine (cut_all A l n c seq inc _ HA.out Hn.out hc (by omega) HS1.out HS2.out).mono ?_
  rintro e w2 ⟨⟨x, rfl, hx⟩ | ⟨g, gd, L, rfl, hL, hLd, hat, hR, hokL⟩, hb2⟩
  · go_wp2_with fail
    refine (cut_all B m k d seq other _ (HB.out.below hb2 (Nat.le_refl _)) Hk.out hd (by omega) HS1.out HS2.out).mono ?_
    rintro e w3 ⟨⟨x', rfl, hx'⟩ | ⟨g', gd', M, rfl, -, -, -, -, -⟩, hb3⟩
    all_goals
      go_wp2_with fail
      refine (wakes4_any _).mono ?_
      rintro e w4 ⟨rfl, hb4⟩
      have hb24 := hb3.trans (hb4.mono hb3.size)
      have hb04 : Below w.heap.size w w4 := hb2.trans (hb24.mono hb2.size)
      go_wp2_with fail
      go_ret
      exact ⟨rfl, hb04⟩
  have HL := Lib.hid hL
  have Hat := Lib.hid hat
  have HR := Lib.hid hR
  clear hL hat hR hokL
  obtain ⟨q, hq⟩ : ∃ q, q = L.length := ⟨_, rfl⟩
  rw [← hq] at hLd ⊢
  have Hq := Lib.hid hq
  clear hq
  go_wp2_with fail
  refine (cut_all B m k d seq other _ (HB.out.below hb2 (Nat.le_refl _)) Hk.out hd (by omega) HS1.out HS2.out).mono ?_
  rintro e w3 ⟨⟨x', rfl, hx'⟩ | ⟨g', gd', M, rfl, hM, hMd, hat', hR', -⟩, hb3⟩
  · go_wp2_with fail
    refine (wakes4_any _).mono ?_
    rintro e w4 ⟨rfl, hb4⟩
    have hb24 := hb3.trans (hb4.mono hb3.size)
    have hb04 : Below w.heap.size w w4 := hb2.trans (hb24.mono hb2.size)
    go_wp2_with fail
    go_ret
    exact ⟨rfl, hb04⟩
  have HM := Lib.hid hM
  have Hat' := Lib.hid hat'
  have HR' := Lib.hid hR'
  have HatL := Lib.hid (Hat.out.below hb3 (Nat.le_refl _))
  have HRL := Lib.hid (HR.out.below hb3 (Nat.le_refl _))
  have hb03 : Below w.heap.size w w3 := hb2.trans (hb3.mono hb2.size)
  have HA3 := Lib.hid (HA.out.below hb03 (Nat.le_refl _))
  have HB3 := Lib.hid (HB.out.below hb03 (Nat.le_refl _))
  clear hM hat' hR' Hat HR
  obtain ⟨r, hr⟩ : ∃ r, r = M.length := ⟨_, rfl⟩
  rw [← hr] at hMd ⊢
  have Hr := Lib.hid hr
  clear hr
  have hcase : ¬ ((q : Int) = 2) ∨ ((q = 2) ∧ ¬ ((r : Int) = 2)) ∨ (q = 2 ∧ r = 2) := by omega
  rcases hcase with h3 | ⟨rfl, h3⟩ | ⟨rfl, rfl⟩
  iterate 2
    · go_wp2_with fail
      refine (wakes4_any _).mono ?_
      rintro e w4 ⟨rfl, hb4⟩
      have hb04 : Below w.heap.size w w4 := hb03.trans (hb4.mono hb03.size)
      go_wp2_with fail
      go_ret
      exact ⟨rfl, hb04⟩
  obtain ⟨l0, l1, B0, d0, B1, d1, rfl, hl0, hl1⟩ := cut_two_of HL.out Hq.out.symm
  obtain ⟨m0, m1, C0, e0, C1, e1, rfl, hm0, hm1⟩ := cut_two_of HM.out Hr.out.symm
  have hl90 : l.length ≤ 90 := by rw [← Hn.out]; exact hn90
  have hm90 : m.length ≤ 90 := by rw [← Hk.out]; exact hk90
  obtain ⟨s, hs⟩ : ∃ s, s = Crc.sum l := ⟨_, rfl⟩
  obtain ⟨t, ht⟩ : ∃ t, t = Crc.sum m := ⟨_, rfl⟩
  rw [← hs] at HatL HRL
  rw [← ht] at Hat' HR'
  have Hsl := Lib.hid hs
  have Htm := Lib.hid ht
  have rs1 : ∀ w', Calls Try.prog 9 #[.slice A n c] w' = Calls Try.prog 9 #[.slice A n c] w' := fun _ => rfl
  clear rs1 hs ht
  have hcase2 : (inc = other ∧ s = t) ∨ (¬ inc = other) ∨ (inc = other ∧ ¬ n32 s = n32 t) := by
    by_cases h : inc = other
    · by_cases h' : s = t
      · exact .inl ⟨h, h'⟩
      · exact .inr (.inr ⟨h, fun e => h' (n32_inj e)⟩)
    · exact .inr (.inl h)
  have hno : (¬ inc = other ∨ ¬ s = t) → (other ≠ inc ∨ t ≠ s) := fun h => h.imp (fun h e => h e.symm) (fun h e => h e.symm)
  have HNO := Lib.hid hno
  clear hno
  rcases hcase2 with ⟨rfl, rfl⟩ | h4 | ⟨rfl, h4⟩
  · go_wp2_with fail
    refine (rsum_any A l n c _ HA3.out Hn.out (by omega)).mono ?_
    rintro e w' ⟨rfl, rfl⟩
    rw [← Hsl.out]
    go_wp2_with fail
    refine (rsum_any B m k d _ HB3.out Hk.out (by omega)).mono ?_
    rintro e w' ⟨rfl, rfl⟩
    rw [← Htm.out]
    go_wp2_with fail
    refine (wakes4_any _).mono ?_
    rintro e w4 ⟨rfl, hb4⟩
    have hb04 : Below w.heap.size w w4 := hb03.trans (hb4.mono hb03.size)
    go_wp2_with fail
    go_ret
    exact ⟨rfl, hb04⟩
  · have HN := Lib.hid (HNO.out (.inl h4))
    go_wp2_with fail
    obtain ⟨bxGL, oxGL, exGL, hltGL, hcGL⟩ := HatL.out.all (by rw [fcells_length]; exact Nat.zero_lt_succ _)
    cases exGL
    have GL0 : ∀ w', Below w3.heap.size w3 w' → w'.cell? ⟨g, 0, none⟩ = some (.int .i64 seq) := fun w' h => (h.cell (p := ⟨g, 0, none⟩) hltGL).trans (by have := hcGL 0 (.int .i64 seq) rfl; simpa using this)
    have GL1 : ∀ w', Below w3.heap.size w3 w' → w'.cell? ⟨g, 1, none⟩ = some (.int .i64 inc) := fun w' h => (h.cell (p := ⟨g, 1, none⟩) hltGL).trans (by have := hcGL 1 (.int .i64 inc) rfl; simpa using this)
    have GL2 : ∀ w', Below w3.heap.size w3 w' → w'.cell? ⟨g, 2, none⟩ = some (.int .i64 0) := fun w' h => (h.cell (p := ⟨g, 2, none⟩) hltGL).trans (by have := hcGL 2 (.int .i64 0) rfl; simpa using this)
    have GL3 : ∀ w', Below w3.heap.size w3 w' → w'.cell? ⟨g, 3, none⟩ = some (.int .i64 2) := fun w' h => (h.cell (p := ⟨g, 3, none⟩) hltGL).trans (by have := hcGL 3 (.int .i64 2) rfl; simpa using this)
    have GL4 : ∀ w', Below w3.heap.size w3 w' → w'.cell? ⟨g, 4, none⟩ = some (.int .u32 (n32 s)) := fun w' h => (h.cell (p := ⟨g, 4, none⟩) hltGL).trans (by have := hcGL 4 (.int .u32 (n32 s)) rfl; simpa using this)
    have GL5 : ∀ w', Below w3.heap.size w3 w' → w'.cell? ⟨g, 5, none⟩ = some (.slice B0 l0.length d0) := fun w' h => (h.cell (p := ⟨g, 5, none⟩) hltGL).trans (by have := hcGL 5 (.slice B0 l0.length d0) rfl; simpa using this)
    have GL6 : ∀ w', Below w3.heap.size w3 w' → w'.cell? ⟨g, 6, none⟩ = some (.int .i64 (seq + 1)) := fun w' h => (h.cell (p := ⟨g, 6, none⟩) hltGL).trans (by have := hcGL 6 (.int .i64 (seq + 1)) rfl; simpa using this)
    have GL7 : ∀ w', Below w3.heap.size w3 w' → w'.cell? ⟨g, 7, none⟩ = some (.int .i64 inc) := fun w' h => (h.cell (p := ⟨g, 7, none⟩) hltGL).trans (by have := hcGL 7 (.int .i64 inc) rfl; simpa using this)
    have GL8 : ∀ w', Below w3.heap.size w3 w' → w'.cell? ⟨g, 8, none⟩ = some (.int .i64 1) := fun w' h => (h.cell (p := ⟨g, 8, none⟩) hltGL).trans (by have := hcGL 8 (.int .i64 1) rfl; simpa using this)
    have GL9 : ∀ w', Below w3.heap.size w3 w' → w'.cell? ⟨g, 9, none⟩ = some (.int .i64 2) := fun w' h => (h.cell (p := ⟨g, 9, none⟩) hltGL).trans (by have := hcGL 9 (.int .i64 2) rfl; simpa using this)
    have GL10 : ∀ w', Below w3.heap.size w3 w' → w'.cell? ⟨g, 10, none⟩ = some (.int .u32 (n32 s)) := fun w' h => (h.cell (p := ⟨g, 10, none⟩) hltGL).trans (by have := hcGL 10 (.int .u32 (n32 s)) rfl; simpa using this)
    have GL11 : ∀ w', Below w3.heap.size w3 w' → w'.cell? ⟨g, 11, none⟩ = some (.slice B1 l1.length d1) := fun w' h => (h.cell (p := ⟨g, 11, none⟩) hltGL).trans (by have := hcGL 11 (.slice B1 l1.length d1) rfl; simpa using this)
    clear hcGL
    obtain ⟨bxGM, oxGM, exGM, hltGM, hcGM⟩ := Hat'.out.all (by rw [fcells_length]; exact Nat.zero_lt_succ _)
    cases exGM
    have GM0 : ∀ w', Below w3.heap.size w3 w' → w'.cell? ⟨g', 0, none⟩ = some (.int .i64 seq) := fun w' h => (h.cell (p := ⟨g', 0, none⟩) hltGM).trans (by have := hcGM 0 (.int .i64 seq) rfl; simpa using this)
    have GM1 : ∀ w', Below w3.heap.size w3 w' → w'.cell? ⟨g', 1, none⟩ = some (.int .i64 other) := fun w' h => (h.cell (p := ⟨g', 1, none⟩) hltGM).trans (by have := hcGM 1 (.int .i64 other) rfl; simpa using this)
    have GM2 : ∀ w', Below w3.heap.size w3 w' → w'.cell? ⟨g', 2, none⟩ = some (.int .i64 0) := fun w' h => (h.cell (p := ⟨g', 2, none⟩) hltGM).trans (by have := hcGM 2 (.int .i64 0) rfl; simpa using this)
    have GM3 : ∀ w', Below w3.heap.size w3 w' → w'.cell? ⟨g', 3, none⟩ = some (.int .i64 2) := fun w' h => (h.cell (p := ⟨g', 3, none⟩) hltGM).trans (by have := hcGM 3 (.int .i64 2) rfl; simpa using this)
    have GM4 : ∀ w', Below w3.heap.size w3 w' → w'.cell? ⟨g', 4, none⟩ = some (.int .u32 (n32 t)) := fun w' h => (h.cell (p := ⟨g', 4, none⟩) hltGM).trans (by have := hcGM 4 (.int .u32 (n32 t)) rfl; simpa using this)
    have GM5 : ∀ w', Below w3.heap.size w3 w' → w'.cell? ⟨g', 5, none⟩ = some (.slice C0 m0.length e0) := fun w' h => (h.cell (p := ⟨g', 5, none⟩) hltGM).trans (by have := hcGM 5 (.slice C0 m0.length e0) rfl; simpa using this)
    have GM6 : ∀ w', Below w3.heap.size w3 w' → w'.cell? ⟨g', 6, none⟩ = some (.int .i64 (seq + 1)) := fun w' h => (h.cell (p := ⟨g', 6, none⟩) hltGM).trans (by have := hcGM 6 (.int .i64 (seq + 1)) rfl; simpa using this)
    have GM7 : ∀ w', Below w3.heap.size w3 w' → w'.cell? ⟨g', 7, none⟩ = some (.int .i64 other) := fun w' h => (h.cell (p := ⟨g', 7, none⟩) hltGM).trans (by have := hcGM 7 (.int .i64 other) rfl; simpa using this)
    have GM8 : ∀ w', Below w3.heap.size w3 w' → w'.cell? ⟨g', 8, none⟩ = some (.int .i64 1) := fun w' h => (h.cell (p := ⟨g', 8, none⟩) hltGM).trans (by have := hcGM 8 (.int .i64 1) rfl; simpa using this)
    have GM9 : ∀ w', Below w3.heap.size w3 w' → w'.cell? ⟨g', 9, none⟩ = some (.int .i64 2) := fun w' h => (h.cell (p := ⟨g', 9, none⟩) hltGM).trans (by have := hcGM 9 (.int .i64 2) rfl; simpa using this)
    have GM10 : ∀ w', Below w3.heap.size w3 w' → w'.cell? ⟨g', 10, none⟩ = some (.int .u32 (n32 t)) := fun w' h => (h.cell (p := ⟨g', 10, none⟩) hltGM).trans (by have := hcGM 10 (.int .u32 (n32 t)) rfl; simpa using this)
    have GM11 : ∀ w', Below w3.heap.size w3 w' → w'.cell? ⟨g', 11, none⟩ = some (.slice C1 m1.length e1) := fun w' h => (h.cell (p := ⟨g', 11, none⟩) hltGM).trans (by have := hcGM 11 (.slice C1 m1.length e1) rfl; simpa using this)
    clear hcGM
    have hrf3 : Below w3.heap.size w3 w3 := Below.refl _ _
    have hbs : ∀ w', (Instr.buildSlice 24 2 #[(0, .agg #[.int .i64 seq, .int .i64 inc, .int .i64 0, .int .i64 2, .int .u32 (n32 s), .slice B0 l0.length d0]), (1, .agg #[.int .i64 (seq + 1), .int .i64 other, .int .i64 1, .int .i64 2, .int .u32 (n32 t), .slice C1 m1.length e1])]).run Try.prog w' = .ok (.slice (some ⟨w'.heap.size, 0, none⟩) 2 2) (w'.alloc (.cells (fcells [⟨⟨seq, inc, 0, 2, s, l0⟩, B0, d0⟩, ⟨⟨seq + 1, other, 1, 2, t, m1⟩, C1, e1⟩]).toArray 33)) := fun w' => run_build2 (P := Try.prog) w' frameTy (FV.cells ⟨⟨seq, inc, 0, 2, s, l0⟩, B0, d0⟩) (FV.cells ⟨⟨seq + 1, other, 1, 2, t, m1⟩, C1, e1⟩) rfl rfl (by decide)
    refine region_plan (S := fun w' => Below w3.heap.size w3 w') [(true, 0), (true, 1), (true, 2), (true, 3), (true, 4), (true, 5), (false, 6), (false, 7), (true, 8), (true, 9), (true, 11), (true, 10), (true, 12)] (by kernel_rfl) (by kernel_rfl) (by kernel_rfl) rfl (hrf3).drew ?_
    simp only [planned_nil, planned_cons, nth_zero, nth_succ]
    iterate 6
      first
        | (refine plan_still2 (v := ?_) (a' := ?_) (by rfl) (fun w' hS' => ?_) ?_ ?_; rotate_left 2; (focus (go_simp <;> with_reducible rfl)); (focus (simp only [Act.put, List.setIfInBounds_toArray, List.set_cons_zero, List.set_cons_succ] <;> rfl)))
        | (refine plan_skip2 (a' := ?_) (by rfl) ?_ ?_; rotate_left 1; (focus (simp only [Act.put, List.setIfInBounds_toArray, List.set_cons_zero, List.set_cons_succ] <;> rfl)))
    refine plan_do (by rfl) (fun K' hK' => ?_)
    go_simp
    have hba : Below w3.heap.size w3 (w3.drew.alloc (.cells (fcells [⟨⟨seq, inc, 0, 2, s, l0⟩, B0, d0⟩, ⟨⟨seq + 1, other, 1, 2, t, m1⟩, C1, e1⟩]).toArray 33)) := ((hrf3).drew).alloc (hrf3).size _
    have hata : At (w3.drew.alloc (.cells (fcells [⟨⟨seq, inc, 0, 2, s, l0⟩, B0, d0⟩, ⟨⟨seq + 1, other, 1, 2, t, m1⟩, C1, e1⟩]).toArray 33)) (some ⟨w3.drew.heap.size, 0, none⟩) (fcells [⟨⟨seq, inc, 0, 2, s, l0⟩, B0, d0⟩, ⟨⟨seq + 1, other, 1, 2, t, m1⟩, C1, e1⟩]) := at_new _ _ _ _
    have hra : Reads (w3.drew.alloc (.cells (fcells [⟨⟨seq, inc, 0, 2, s, l0⟩, B0, d0⟩, ⟨⟨seq + 1, other, 1, 2, t, m1⟩, C1, e1⟩]).toArray 33)) [⟨⟨seq, inc, 0, 2, s, l0⟩, B0, d0⟩, ⟨⟨seq + 1, other, 1, 2, t, m1⟩, C1, e1⟩] := by
      intro x hx
      simp only [List.mem_cons, List.not_mem_nil, or_false] at hx
      rcases hx with rfl | rfl
      · exact (HRL.out _ (by simp)).below hba (Nat.le_refl _)
      · exact (HR'.out _ (by simp)).below hba (Nat.le_refl _)
    refine hK'.out _ _ hba ?_
    clear hK' K' hbs
    refine plan_do (by rfl) (fun K' hK' => ?_)
    go_simp
    refine (fjoin_any _ [⟨⟨seq, inc, 0, 2, s, l0⟩, B0, d0⟩, ⟨⟨seq + 1, other, 1, 2, t, m1⟩, C1, e1⟩] 2 2 _ hata hra rfl (by decide) (by decide) (by intro x hx; simp only [List.mem_cons, List.not_mem_nil, or_false] at hx; rcases hx with rfl | rfl; all_goals (simp only; omega))).mono ?_
    rintro e w4 ⟨⟨_, _, _, hy⟩ | ⟨rfl, -⟩, hww4⟩
    · exact absurd hy (mixed_no (HN.out.elim .inl (fun h => .inr (.inl h))))
    have hbw4 : Below w3.heap.size w3 w4 := hba.trans (hww4.mono hba.size)
    refine hK'.out _ _ hbw4 ?_
    clear hK' K' hata hra hba
    iterate 5
      first
        | (refine plan_still2 (v := ?_) (a' := ?_) (by rfl) (fun w' hS' => ?_) ?_ ?_; rotate_left 2; (focus (go_simp <;> with_reducible rfl)); (focus (simp only [Act.put, List.setIfInBounds_toArray, List.set_cons_zero, List.set_cons_succ] <;> rfl)))
        | (refine plan_skip2 (a' := ?_) (by rfl) ?_ ?_; rotate_left 1; (focus (simp only [Act.put, List.setIfInBounds_toArray, List.set_cons_zero, List.set_cons_succ] <;> rfl)))
    refine plan_nil ?_
    go_wp2_with fail
    have hbs : ∀ w', (Instr.buildSlice 24 2 #[(0, .agg #[.int .i64 seq, .int .i64 other, .int .i64 0, .int .i64 2, .int .u32 (n32 t), .slice C0 m0.length e0]), (1, .agg #[.int .i64 (seq + 1), .int .i64 inc, .int .i64 1, .int .i64 2, .int .u32 (n32 s), .slice B1 l1.length d1])]).run Try.prog w' = .ok (.slice (some ⟨w'.heap.size, 0, none⟩) 2 2) (w'.alloc (.cells (fcells [⟨⟨seq, other, 0, 2, t, m0⟩, C0, e0⟩, ⟨⟨seq + 1, inc, 1, 2, s, l1⟩, B1, d1⟩]).toArray 33)) := fun w' => run_build2 (P := Try.prog) w' frameTy (FV.cells ⟨⟨seq, other, 0, 2, t, m0⟩, C0, e0⟩) (FV.cells ⟨⟨seq + 1, inc, 1, 2, s, l1⟩, B1, d1⟩) rfl rfl (by decide)
    refine region_plan (S := fun w' => Below w3.heap.size w3 w') [(true, 0), (true, 1), (true, 2), (true, 3), (true, 4), (true, 5), (false, 6), (false, 7), (true, 8), (true, 9), (true, 11), (true, 10), (true, 12)] (by kernel_rfl) (by kernel_rfl) (by kernel_rfl) rfl (hbw4).drew ?_
    simp only [planned_nil, planned_cons, nth_zero, nth_succ]
    iterate 6
      first
        | (refine plan_still2 (v := ?_) (a' := ?_) (by rfl) (fun w' hS' => ?_) ?_ ?_; rotate_left 2; (focus (go_simp <;> with_reducible rfl)); (focus (simp only [Act.put, List.setIfInBounds_toArray, List.set_cons_zero, List.set_cons_succ] <;> rfl)))
        | (refine plan_skip2 (a' := ?_) (by rfl) ?_ ?_; rotate_left 1; (focus (simp only [Act.put, List.setIfInBounds_toArray, List.set_cons_zero, List.set_cons_succ] <;> rfl)))
    refine plan_do (by rfl) (fun K' hK' => ?_)
    go_simp
    have hba : Below w3.heap.size w3 (w4.drew.alloc (.cells (fcells [⟨⟨seq, other, 0, 2, t, m0⟩, C0, e0⟩, ⟨⟨seq + 1, inc, 1, 2, s, l1⟩, B1, d1⟩]).toArray 33)) := ((hbw4).drew).alloc (hbw4).size _
    have hata : At (w4.drew.alloc (.cells (fcells [⟨⟨seq, other, 0, 2, t, m0⟩, C0, e0⟩, ⟨⟨seq + 1, inc, 1, 2, s, l1⟩, B1, d1⟩]).toArray 33)) (some ⟨w4.drew.heap.size, 0, none⟩) (fcells [⟨⟨seq, other, 0, 2, t, m0⟩, C0, e0⟩, ⟨⟨seq + 1, inc, 1, 2, s, l1⟩, B1, d1⟩]) := at_new _ _ _ _
    have hra : Reads (w4.drew.alloc (.cells (fcells [⟨⟨seq, other, 0, 2, t, m0⟩, C0, e0⟩, ⟨⟨seq + 1, inc, 1, 2, s, l1⟩, B1, d1⟩]).toArray 33)) [⟨⟨seq, other, 0, 2, t, m0⟩, C0, e0⟩, ⟨⟨seq + 1, inc, 1, 2, s, l1⟩, B1, d1⟩] := by
      intro x hx
      simp only [List.mem_cons, List.not_mem_nil, or_false] at hx
      rcases hx with rfl | rfl
      · exact (HR'.out _ (by simp)).below hba (Nat.le_refl _)
      · exact (HRL.out _ (by simp)).below hba (Nat.le_refl _)
    refine hK'.out _ _ hba ?_
    clear hK' K' hbs
    refine plan_do (by rfl) (fun K' hK' => ?_)
    go_simp
    refine (fjoin_any _ [⟨⟨seq, other, 0, 2, t, m0⟩, C0, e0⟩, ⟨⟨seq + 1, inc, 1, 2, s, l1⟩, B1, d1⟩] 2 2 _ hata hra rfl (by decide) (by decide) (by intro x hx; simp only [List.mem_cons, List.not_mem_nil, or_false] at hx; rcases hx with rfl | rfl; all_goals (simp only; omega))).mono ?_
    rintro e w5 ⟨⟨_, _, _, hy⟩ | ⟨rfl, -⟩, hww5⟩
    · exact absurd hy (mixed_no (HN.out.elim (fun h => .inl (fun e => h e.symm)) (fun h => .inr (.inl (fun e => h e.symm)))))
    have hbw5 : Below w3.heap.size w3 w5 := hba.trans (hww5.mono hba.size)
    refine hK'.out _ _ hbw5 ?_
    clear hK' K' hata hra hba
    iterate 5
      first
        | (refine plan_still2 (v := ?_) (a' := ?_) (by rfl) (fun w' hS' => ?_) ?_ ?_; rotate_left 2; (focus (go_simp <;> with_reducible rfl)); (focus (simp only [Act.put, List.setIfInBounds_toArray, List.set_cons_zero, List.set_cons_succ] <;> rfl)))
        | (refine plan_skip2 (a' := ?_) (by rfl) ?_ ?_; rotate_left 1; (focus (simp only [Act.put, List.setIfInBounds_toArray, List.set_cons_zero, List.set_cons_succ] <;> rfl)))
    refine plan_nil ?_
    go_wp2_with fail
    have hbs : ∀ w', (Instr.buildSlice 24 2 #[(0, .agg #[.int .i64 (seq + 1), .int .i64 inc, .int .i64 1, .int .i64 2, .int .u32 (n32 s), .slice B1 l1.length d1]), (1, .agg #[.int .i64 seq, .int .i64 inc, .int .i64 0, .int .i64 2, .int .u32 (n32 s), .slice B0 l0.length d0])]).run Try.prog w' = .ok (.slice (some ⟨w'.heap.size, 0, none⟩) 2 2) (w'.alloc (.cells (fcells [⟨⟨seq + 1, inc, 1, 2, s, l1⟩, B1, d1⟩, ⟨⟨seq, inc, 0, 2, s, l0⟩, B0, d0⟩]).toArray 33)) := fun w' => run_build2 (P := Try.prog) w' frameTy (FV.cells ⟨⟨seq + 1, inc, 1, 2, s, l1⟩, B1, d1⟩) (FV.cells ⟨⟨seq, inc, 0, 2, s, l0⟩, B0, d0⟩) rfl rfl (by decide)
    refine region_plan (S := fun w' => Below w3.heap.size w3 w') [(true, 0), (true, 1), (true, 2), (true, 3), (true, 4), (true, 5), (false, 6), (false, 7), (true, 8), (true, 9), (true, 11), (true, 10), (true, 12)] (by kernel_rfl) (by kernel_rfl) (by kernel_rfl) rfl (hbw5).drew ?_
    simp only [planned_nil, planned_cons, nth_zero, nth_succ]
    iterate 6
      first
        | (refine plan_still2 (v := ?_) (a' := ?_) (by rfl) (fun w' hS' => ?_) ?_ ?_; rotate_left 2; (focus (go_simp <;> with_reducible rfl)); (focus (simp only [Act.put, List.setIfInBounds_toArray, List.set_cons_zero, List.set_cons_succ] <;> rfl)))
        | (refine plan_skip2 (a' := ?_) (by rfl) ?_ ?_; rotate_left 1; (focus (simp only [Act.put, List.setIfInBounds_toArray, List.set_cons_zero, List.set_cons_succ] <;> rfl)))
    refine plan_do (by rfl) (fun K' hK' => ?_)
    go_simp
    have hba : Below w3.heap.size w3 (w5.drew.alloc (.cells (fcells [⟨⟨seq + 1, inc, 1, 2, s, l1⟩, B1, d1⟩, ⟨⟨seq, inc, 0, 2, s, l0⟩, B0, d0⟩]).toArray 33)) := ((hbw5).drew).alloc (hbw5).size _
    have hata : At (w5.drew.alloc (.cells (fcells [⟨⟨seq + 1, inc, 1, 2, s, l1⟩, B1, d1⟩, ⟨⟨seq, inc, 0, 2, s, l0⟩, B0, d0⟩]).toArray 33)) (some ⟨w5.drew.heap.size, 0, none⟩) (fcells [⟨⟨seq + 1, inc, 1, 2, s, l1⟩, B1, d1⟩, ⟨⟨seq, inc, 0, 2, s, l0⟩, B0, d0⟩]) := at_new _ _ _ _
    have hra : Reads (w5.drew.alloc (.cells (fcells [⟨⟨seq + 1, inc, 1, 2, s, l1⟩, B1, d1⟩, ⟨⟨seq, inc, 0, 2, s, l0⟩, B0, d0⟩]).toArray 33)) [⟨⟨seq + 1, inc, 1, 2, s, l1⟩, B1, d1⟩, ⟨⟨seq, inc, 0, 2, s, l0⟩, B0, d0⟩] := by
      intro x hx
      simp only [List.mem_cons, List.not_mem_nil, or_false] at hx
      rcases hx with rfl | rfl
      · exact (HRL.out _ (by simp)).below hba (Nat.le_refl _)
      · exact (HRL.out _ (by simp)).below hba (Nat.le_refl _)
    refine hK'.out _ _ hba ?_
    clear hK' K' hbs
    refine plan_do (by rfl) (fun K' hK' => ?_)
    go_simp
    refine (fjoin_any _ [⟨⟨seq + 1, inc, 1, 2, s, l1⟩, B1, d1⟩, ⟨⟨seq, inc, 0, 2, s, l0⟩, B0, d0⟩] 2 2 _ hata hra rfl (by decide) (by decide) (by intro x hx; simp only [List.mem_cons, List.not_mem_nil, or_false] at hx; rcases hx with rfl | rfl; all_goals (simp only; omega))).mono ?_
    rintro e w6 ⟨⟨_, _, _, hy⟩ | ⟨rfl, -⟩, hww6⟩
    · exact absurd hy (mixed_no (.inr (.inr (by simp))))
    have hbw6 : Below w3.heap.size w3 w6 := hba.trans (hww6.mono hba.size)
    refine hK'.out _ _ hbw6 ?_
    clear hK' K' hata hra hba
    iterate 5
      first
        | (refine plan_still2 (v := ?_) (a' := ?_) (by rfl) (fun w' hS' => ?_) ?_ ?_; rotate_left 2; (focus (go_simp <;> with_reducible rfl)); (focus (simp only [Act.put, List.setIfInBounds_toArray, List.set_cons_zero, List.set_cons_succ] <;> rfl)))
        | (refine plan_skip2 (a' := ?_) (by rfl) ?_ ?_; rotate_left 1; (focus (simp only [Act.put, List.setIfInBounds_toArray, List.set_cons_zero, List.set_cons_succ] <;> rfl)))
    refine plan_nil ?_
    clear GL0 GL1 GL2 GL3 GL4 GL5 GL6 GL7 GL8 GL9 GL10 GL11 GM0 GM1 GM2 GM3 GM4 GM5 GM6 GM7 GM8 GM9 GM10 GM11
    go_wp2_with fail
    refine (wakes4_any _).mono ?_
    rintro e w7 ⟨rfl, hb7⟩
    have hb07 : Below w.heap.size w w7 := hb03.trans ((hbw6.trans (hb7.mono hbw6.size)).mono hb03.size)
    go_wp2_with fail
    go_ret
    exact ⟨rfl, hb07⟩
  · have HN := Lib.hid (HNO.out (.inr (fun e => h4 (by rw [e]))))
    go_wp2_with fail
    refine (rsum_any A l n c _ HA3.out Hn.out (by omega)).mono ?_
    rintro e w' ⟨rfl, rfl⟩
    rw [← Hsl.out]
    go_wp2_with fail
    refine (rsum_any B m k d _ HB3.out Hk.out (by omega)).mono ?_
    rintro e w' ⟨rfl, rfl⟩
    rw [← Htm.out]
    go_wp2_with fail
    obtain ⟨bxGL, oxGL, exGL, hltGL, hcGL⟩ := HatL.out.all (by rw [fcells_length]; exact Nat.zero_lt_succ _)
    cases exGL
    have GL0 : ∀ w', Below w3.heap.size w3 w' → w'.cell? ⟨g, 0, none⟩ = some (.int .i64 seq) := fun w' h => (h.cell (p := ⟨g, 0, none⟩) hltGL).trans (by have := hcGL 0 (.int .i64 seq) rfl; simpa using this)
    have GL1 : ∀ w', Below w3.heap.size w3 w' → w'.cell? ⟨g, 1, none⟩ = some (.int .i64 inc) := fun w' h => (h.cell (p := ⟨g, 1, none⟩) hltGL).trans (by have := hcGL 1 (.int .i64 inc) rfl; simpa using this)
    have GL2 : ∀ w', Below w3.heap.size w3 w' → w'.cell? ⟨g, 2, none⟩ = some (.int .i64 0) := fun w' h => (h.cell (p := ⟨g, 2, none⟩) hltGL).trans (by have := hcGL 2 (.int .i64 0) rfl; simpa using this)
    have GL3 : ∀ w', Below w3.heap.size w3 w' → w'.cell? ⟨g, 3, none⟩ = some (.int .i64 2) := fun w' h => (h.cell (p := ⟨g, 3, none⟩) hltGL).trans (by have := hcGL 3 (.int .i64 2) rfl; simpa using this)
    have GL4 : ∀ w', Below w3.heap.size w3 w' → w'.cell? ⟨g, 4, none⟩ = some (.int .u32 (n32 s)) := fun w' h => (h.cell (p := ⟨g, 4, none⟩) hltGL).trans (by have := hcGL 4 (.int .u32 (n32 s)) rfl; simpa using this)
    have GL5 : ∀ w', Below w3.heap.size w3 w' → w'.cell? ⟨g, 5, none⟩ = some (.slice B0 l0.length d0) := fun w' h => (h.cell (p := ⟨g, 5, none⟩) hltGL).trans (by have := hcGL 5 (.slice B0 l0.length d0) rfl; simpa using this)
    have GL6 : ∀ w', Below w3.heap.size w3 w' → w'.cell? ⟨g, 6, none⟩ = some (.int .i64 (seq + 1)) := fun w' h => (h.cell (p := ⟨g, 6, none⟩) hltGL).trans (by have := hcGL 6 (.int .i64 (seq + 1)) rfl; simpa using this)
    have GL7 : ∀ w', Below w3.heap.size w3 w' → w'.cell? ⟨g, 7, none⟩ = some (.int .i64 inc) := fun w' h => (h.cell (p := ⟨g, 7, none⟩) hltGL).trans (by have := hcGL 7 (.int .i64 inc) rfl; simpa using this)
    have GL8 : ∀ w', Below w3.heap.size w3 w' → w'.cell? ⟨g, 8, none⟩ = some (.int .i64 1) := fun w' h => (h.cell (p := ⟨g, 8, none⟩) hltGL).trans (by have := hcGL 8 (.int .i64 1) rfl; simpa using this)
    have GL9 : ∀ w', Below w3.heap.size w3 w' → w'.cell? ⟨g, 9, none⟩ = some (.int .i64 2) := fun w' h => (h.cell (p := ⟨g, 9, none⟩) hltGL).trans (by have := hcGL 9 (.int .i64 2) rfl; simpa using this)
    have GL10 : ∀ w', Below w3.heap.size w3 w' → w'.cell? ⟨g, 10, none⟩ = some (.int .u32 (n32 s)) := fun w' h => (h.cell (p := ⟨g, 10, none⟩) hltGL).trans (by have := hcGL 10 (.int .u32 (n32 s)) rfl; simpa using this)
    have GL11 : ∀ w', Below w3.heap.size w3 w' → w'.cell? ⟨g, 11, none⟩ = some (.slice B1 l1.length d1) := fun w' h => (h.cell (p := ⟨g, 11, none⟩) hltGL).trans (by have := hcGL 11 (.slice B1 l1.length d1) rfl; simpa using this)
    clear hcGL
    obtain ⟨bxGM, oxGM, exGM, hltGM, hcGM⟩ := Hat'.out.all (by rw [fcells_length]; exact Nat.zero_lt_succ _)
    cases exGM
    have GM0 : ∀ w', Below w3.heap.size w3 w' → w'.cell? ⟨g', 0, none⟩ = some (.int .i64 seq) := fun w' h => (h.cell (p := ⟨g', 0, none⟩) hltGM).trans (by have := hcGM 0 (.int .i64 seq) rfl; simpa using this)
    have GM1 : ∀ w', Below w3.heap.size w3 w' → w'.cell? ⟨g', 1, none⟩ = some (.int .i64 inc) := fun w' h => (h.cell (p := ⟨g', 1, none⟩) hltGM).trans (by have := hcGM 1 (.int .i64 inc) rfl; simpa using this)
    have GM2 : ∀ w', Below w3.heap.size w3 w' → w'.cell? ⟨g', 2, none⟩ = some (.int .i64 0) := fun w' h => (h.cell (p := ⟨g', 2, none⟩) hltGM).trans (by have := hcGM 2 (.int .i64 0) rfl; simpa using this)
    have GM3 : ∀ w', Below w3.heap.size w3 w' → w'.cell? ⟨g', 3, none⟩ = some (.int .i64 2) := fun w' h => (h.cell (p := ⟨g', 3, none⟩) hltGM).trans (by have := hcGM 3 (.int .i64 2) rfl; simpa using this)
    have GM4 : ∀ w', Below w3.heap.size w3 w' → w'.cell? ⟨g', 4, none⟩ = some (.int .u32 (n32 t)) := fun w' h => (h.cell (p := ⟨g', 4, none⟩) hltGM).trans (by have := hcGM 4 (.int .u32 (n32 t)) rfl; simpa using this)
    have GM5 : ∀ w', Below w3.heap.size w3 w' → w'.cell? ⟨g', 5, none⟩ = some (.slice C0 m0.length e0) := fun w' h => (h.cell (p := ⟨g', 5, none⟩) hltGM).trans (by have := hcGM 5 (.slice C0 m0.length e0) rfl; simpa using this)
    have GM6 : ∀ w', Below w3.heap.size w3 w' → w'.cell? ⟨g', 6, none⟩ = some (.int .i64 (seq + 1)) := fun w' h => (h.cell (p := ⟨g', 6, none⟩) hltGM).trans (by have := hcGM 6 (.int .i64 (seq + 1)) rfl; simpa using this)
    have GM7 : ∀ w', Below w3.heap.size w3 w' → w'.cell? ⟨g', 7, none⟩ = some (.int .i64 inc) := fun w' h => (h.cell (p := ⟨g', 7, none⟩) hltGM).trans (by have := hcGM 7 (.int .i64 inc) rfl; simpa using this)
    have GM8 : ∀ w', Below w3.heap.size w3 w' → w'.cell? ⟨g', 8, none⟩ = some (.int .i64 1) := fun w' h => (h.cell (p := ⟨g', 8, none⟩) hltGM).trans (by have := hcGM 8 (.int .i64 1) rfl; simpa using this)
    have GM9 : ∀ w', Below w3.heap.size w3 w' → w'.cell? ⟨g', 9, none⟩ = some (.int .i64 2) := fun w' h => (h.cell (p := ⟨g', 9, none⟩) hltGM).trans (by have := hcGM 9 (.int .i64 2) rfl; simpa using this)
    have GM10 : ∀ w', Below w3.heap.size w3 w' → w'.cell? ⟨g', 10, none⟩ = some (.int .u32 (n32 t)) := fun w' h => (h.cell (p := ⟨g', 10, none⟩) hltGM).trans (by have := hcGM 10 (.int .u32 (n32 t)) rfl; simpa using this)
    have GM11 : ∀ w', Below w3.heap.size w3 w' → w'.cell? ⟨g', 11, none⟩ = some (.slice C1 m1.length e1) := fun w' h => (h.cell (p := ⟨g', 11, none⟩) hltGM).trans (by have := hcGM 11 (.slice C1 m1.length e1) rfl; simpa using this)
    clear hcGM
    have hrf3 : Below w3.heap.size w3 w3 := Below.refl _ _
    have hbs : ∀ w', (Instr.buildSlice 24 2 #[(0, .agg #[.int .i64 seq, .int .i64 inc, .int .i64 0, .int .i64 2, .int .u32 (n32 s), .slice B0 l0.length d0]), (1, .agg #[.int .i64 (seq + 1), .int .i64 inc, .int .i64 1, .int .i64 2, .int .u32 (n32 t), .slice C1 m1.length e1])]).run Try.prog w' = .ok (.slice (some ⟨w'.heap.size, 0, none⟩) 2 2) (w'.alloc (.cells (fcells [⟨⟨seq, inc, 0, 2, s, l0⟩, B0, d0⟩, ⟨⟨seq + 1, inc, 1, 2, t, m1⟩, C1, e1⟩]).toArray 33)) := fun w' => run_build2 (P := Try.prog) w' frameTy (FV.cells ⟨⟨seq, inc, 0, 2, s, l0⟩, B0, d0⟩) (FV.cells ⟨⟨seq + 1, inc, 1, 2, t, m1⟩, C1, e1⟩) rfl rfl (by decide)
    refine region_plan (S := fun w' => Below w3.heap.size w3 w') [(true, 0), (true, 1), (true, 2), (true, 3), (true, 4), (true, 5), (false, 6), (false, 7), (true, 8), (true, 9), (true, 11), (true, 10), (true, 12)] (by kernel_rfl) (by kernel_rfl) (by kernel_rfl) rfl (hrf3).drew ?_
    simp only [planned_nil, planned_cons, nth_zero, nth_succ]
    iterate 6
      first
        | (refine plan_still2 (v := ?_) (a' := ?_) (by rfl) (fun w' hS' => ?_) ?_ ?_; rotate_left 2; (focus (go_simp <;> with_reducible rfl)); (focus (simp only [Act.put, List.setIfInBounds_toArray, List.set_cons_zero, List.set_cons_succ] <;> rfl)))
        | (refine plan_skip2 (a' := ?_) (by rfl) ?_ ?_; rotate_left 1; (focus (simp only [Act.put, List.setIfInBounds_toArray, List.set_cons_zero, List.set_cons_succ] <;> rfl)))
    refine plan_do (by rfl) (fun K' hK' => ?_)
    go_simp
    have hba : Below w3.heap.size w3 (w3.drew.alloc (.cells (fcells [⟨⟨seq, inc, 0, 2, s, l0⟩, B0, d0⟩, ⟨⟨seq + 1, inc, 1, 2, t, m1⟩, C1, e1⟩]).toArray 33)) := ((hrf3).drew).alloc (hrf3).size _
    have hata : At (w3.drew.alloc (.cells (fcells [⟨⟨seq, inc, 0, 2, s, l0⟩, B0, d0⟩, ⟨⟨seq + 1, inc, 1, 2, t, m1⟩, C1, e1⟩]).toArray 33)) (some ⟨w3.drew.heap.size, 0, none⟩) (fcells [⟨⟨seq, inc, 0, 2, s, l0⟩, B0, d0⟩, ⟨⟨seq + 1, inc, 1, 2, t, m1⟩, C1, e1⟩]) := at_new _ _ _ _
    have hra : Reads (w3.drew.alloc (.cells (fcells [⟨⟨seq, inc, 0, 2, s, l0⟩, B0, d0⟩, ⟨⟨seq + 1, inc, 1, 2, t, m1⟩, C1, e1⟩]).toArray 33)) [⟨⟨seq, inc, 0, 2, s, l0⟩, B0, d0⟩, ⟨⟨seq + 1, inc, 1, 2, t, m1⟩, C1, e1⟩] := by
      intro x hx
      simp only [List.mem_cons, List.not_mem_nil, or_false] at hx
      rcases hx with rfl | rfl
      · exact (HRL.out _ (by simp)).below hba (Nat.le_refl _)
      · exact (HR'.out _ (by simp)).below hba (Nat.le_refl _)
    refine hK'.out _ _ hba ?_
    clear hK' K' hbs
    refine plan_do (by rfl) (fun K' hK' => ?_)
    go_simp
    refine (fjoin_any _ [⟨⟨seq, inc, 0, 2, s, l0⟩, B0, d0⟩, ⟨⟨seq + 1, inc, 1, 2, t, m1⟩, C1, e1⟩] 2 2 _ hata hra rfl (by decide) (by decide) (by intro x hx; simp only [List.mem_cons, List.not_mem_nil, or_false] at hx; rcases hx with rfl | rfl; all_goals (simp only; omega))).mono ?_
    rintro e w4 ⟨⟨_, _, _, hy⟩ | ⟨rfl, -⟩, hww4⟩
    · exact absurd hy (mixed_no (HN.out.elim .inl (fun h => .inr (.inl h))))
    have hbw4 : Below w3.heap.size w3 w4 := hba.trans (hww4.mono hba.size)
    refine hK'.out _ _ hbw4 ?_
    clear hK' K' hata hra hba
    iterate 5
      first
        | (refine plan_still2 (v := ?_) (a' := ?_) (by rfl) (fun w' hS' => ?_) ?_ ?_; rotate_left 2; (focus (go_simp <;> with_reducible rfl)); (focus (simp only [Act.put, List.setIfInBounds_toArray, List.set_cons_zero, List.set_cons_succ] <;> rfl)))
        | (refine plan_skip2 (a' := ?_) (by rfl) ?_ ?_; rotate_left 1; (focus (simp only [Act.put, List.setIfInBounds_toArray, List.set_cons_zero, List.set_cons_succ] <;> rfl)))
    refine plan_nil ?_
    go_wp2_with fail
    have hbs : ∀ w', (Instr.buildSlice 24 2 #[(0, .agg #[.int .i64 seq, .int .i64 inc, .int .i64 0, .int .i64 2, .int .u32 (n32 t), .slice C0 m0.length e0]), (1, .agg #[.int .i64 (seq + 1), .int .i64 inc, .int .i64 1, .int .i64 2, .int .u32 (n32 s), .slice B1 l1.length d1])]).run Try.prog w' = .ok (.slice (some ⟨w'.heap.size, 0, none⟩) 2 2) (w'.alloc (.cells (fcells [⟨⟨seq, inc, 0, 2, t, m0⟩, C0, e0⟩, ⟨⟨seq + 1, inc, 1, 2, s, l1⟩, B1, d1⟩]).toArray 33)) := fun w' => run_build2 (P := Try.prog) w' frameTy (FV.cells ⟨⟨seq, inc, 0, 2, t, m0⟩, C0, e0⟩) (FV.cells ⟨⟨seq + 1, inc, 1, 2, s, l1⟩, B1, d1⟩) rfl rfl (by decide)
    refine region_plan (S := fun w' => Below w3.heap.size w3 w') [(true, 0), (true, 1), (true, 2), (true, 3), (true, 4), (true, 5), (false, 6), (false, 7), (true, 8), (true, 9), (true, 11), (true, 10), (true, 12)] (by kernel_rfl) (by kernel_rfl) (by kernel_rfl) rfl (hbw4).drew ?_
    simp only [planned_nil, planned_cons, nth_zero, nth_succ]
    iterate 6
      first
        | (refine plan_still2 (v := ?_) (a' := ?_) (by rfl) (fun w' hS' => ?_) ?_ ?_; rotate_left 2; (focus (go_simp <;> with_reducible rfl)); (focus (simp only [Act.put, List.setIfInBounds_toArray, List.set_cons_zero, List.set_cons_succ] <;> rfl)))
        | (refine plan_skip2 (a' := ?_) (by rfl) ?_ ?_; rotate_left 1; (focus (simp only [Act.put, List.setIfInBounds_toArray, List.set_cons_zero, List.set_cons_succ] <;> rfl)))
    refine plan_do (by rfl) (fun K' hK' => ?_)
    go_simp
    have hba : Below w3.heap.size w3 (w4.drew.alloc (.cells (fcells [⟨⟨seq, inc, 0, 2, t, m0⟩, C0, e0⟩, ⟨⟨seq + 1, inc, 1, 2, s, l1⟩, B1, d1⟩]).toArray 33)) := ((hbw4).drew).alloc (hbw4).size _
    have hata : At (w4.drew.alloc (.cells (fcells [⟨⟨seq, inc, 0, 2, t, m0⟩, C0, e0⟩, ⟨⟨seq + 1, inc, 1, 2, s, l1⟩, B1, d1⟩]).toArray 33)) (some ⟨w4.drew.heap.size, 0, none⟩) (fcells [⟨⟨seq, inc, 0, 2, t, m0⟩, C0, e0⟩, ⟨⟨seq + 1, inc, 1, 2, s, l1⟩, B1, d1⟩]) := at_new _ _ _ _
    have hra : Reads (w4.drew.alloc (.cells (fcells [⟨⟨seq, inc, 0, 2, t, m0⟩, C0, e0⟩, ⟨⟨seq + 1, inc, 1, 2, s, l1⟩, B1, d1⟩]).toArray 33)) [⟨⟨seq, inc, 0, 2, t, m0⟩, C0, e0⟩, ⟨⟨seq + 1, inc, 1, 2, s, l1⟩, B1, d1⟩] := by
      intro x hx
      simp only [List.mem_cons, List.not_mem_nil, or_false] at hx
      rcases hx with rfl | rfl
      · exact (HR'.out _ (by simp)).below hba (Nat.le_refl _)
      · exact (HRL.out _ (by simp)).below hba (Nat.le_refl _)
    refine hK'.out _ _ hba ?_
    clear hK' K' hbs
    refine plan_do (by rfl) (fun K' hK' => ?_)
    go_simp
    refine (fjoin_any _ [⟨⟨seq, inc, 0, 2, t, m0⟩, C0, e0⟩, ⟨⟨seq + 1, inc, 1, 2, s, l1⟩, B1, d1⟩] 2 2 _ hata hra rfl (by decide) (by decide) (by intro x hx; simp only [List.mem_cons, List.not_mem_nil, or_false] at hx; rcases hx with rfl | rfl; all_goals (simp only; omega))).mono ?_
    rintro e w5 ⟨⟨_, _, _, hy⟩ | ⟨rfl, -⟩, hww5⟩
    · exact absurd hy (mixed_no (HN.out.elim (fun h => .inl (fun e => h e.symm)) (fun h => .inr (.inl (fun e => h e.symm)))))
    have hbw5 : Below w3.heap.size w3 w5 := hba.trans (hww5.mono hba.size)
    refine hK'.out _ _ hbw5 ?_
    clear hK' K' hata hra hba
    iterate 5
      first
        | (refine plan_still2 (v := ?_) (a' := ?_) (by rfl) (fun w' hS' => ?_) ?_ ?_; rotate_left 2; (focus (go_simp <;> with_reducible rfl)); (focus (simp only [Act.put, List.setIfInBounds_toArray, List.set_cons_zero, List.set_cons_succ] <;> rfl)))
        | (refine plan_skip2 (a' := ?_) (by rfl) ?_ ?_; rotate_left 1; (focus (simp only [Act.put, List.setIfInBounds_toArray, List.set_cons_zero, List.set_cons_succ] <;> rfl)))
    refine plan_nil ?_
    go_wp2_with fail
    have hbs : ∀ w', (Instr.buildSlice 24 2 #[(0, .agg #[.int .i64 (seq + 1), .int .i64 inc, .int .i64 1, .int .i64 2, .int .u32 (n32 s), .slice B1 l1.length d1]), (1, .agg #[.int .i64 seq, .int .i64 inc, .int .i64 0, .int .i64 2, .int .u32 (n32 s), .slice B0 l0.length d0])]).run Try.prog w' = .ok (.slice (some ⟨w'.heap.size, 0, none⟩) 2 2) (w'.alloc (.cells (fcells [⟨⟨seq + 1, inc, 1, 2, s, l1⟩, B1, d1⟩, ⟨⟨seq, inc, 0, 2, s, l0⟩, B0, d0⟩]).toArray 33)) := fun w' => run_build2 (P := Try.prog) w' frameTy (FV.cells ⟨⟨seq + 1, inc, 1, 2, s, l1⟩, B1, d1⟩) (FV.cells ⟨⟨seq, inc, 0, 2, s, l0⟩, B0, d0⟩) rfl rfl (by decide)
    refine region_plan (S := fun w' => Below w3.heap.size w3 w') [(true, 0), (true, 1), (true, 2), (true, 3), (true, 4), (true, 5), (false, 6), (false, 7), (true, 8), (true, 9), (true, 11), (true, 10), (true, 12)] (by kernel_rfl) (by kernel_rfl) (by kernel_rfl) rfl (hbw5).drew ?_
    simp only [planned_nil, planned_cons, nth_zero, nth_succ]
    iterate 6
      first
        | (refine plan_still2 (v := ?_) (a' := ?_) (by rfl) (fun w' hS' => ?_) ?_ ?_; rotate_left 2; (focus (go_simp <;> with_reducible rfl)); (focus (simp only [Act.put, List.setIfInBounds_toArray, List.set_cons_zero, List.set_cons_succ] <;> rfl)))
        | (refine plan_skip2 (a' := ?_) (by rfl) ?_ ?_; rotate_left 1; (focus (simp only [Act.put, List.setIfInBounds_toArray, List.set_cons_zero, List.set_cons_succ] <;> rfl)))
    refine plan_do (by rfl) (fun K' hK' => ?_)
    go_simp
    have hba : Below w3.heap.size w3 (w5.drew.alloc (.cells (fcells [⟨⟨seq + 1, inc, 1, 2, s, l1⟩, B1, d1⟩, ⟨⟨seq, inc, 0, 2, s, l0⟩, B0, d0⟩]).toArray 33)) := ((hbw5).drew).alloc (hbw5).size _
    have hata : At (w5.drew.alloc (.cells (fcells [⟨⟨seq + 1, inc, 1, 2, s, l1⟩, B1, d1⟩, ⟨⟨seq, inc, 0, 2, s, l0⟩, B0, d0⟩]).toArray 33)) (some ⟨w5.drew.heap.size, 0, none⟩) (fcells [⟨⟨seq + 1, inc, 1, 2, s, l1⟩, B1, d1⟩, ⟨⟨seq, inc, 0, 2, s, l0⟩, B0, d0⟩]) := at_new _ _ _ _
    have hra : Reads (w5.drew.alloc (.cells (fcells [⟨⟨seq + 1, inc, 1, 2, s, l1⟩, B1, d1⟩, ⟨⟨seq, inc, 0, 2, s, l0⟩, B0, d0⟩]).toArray 33)) [⟨⟨seq + 1, inc, 1, 2, s, l1⟩, B1, d1⟩, ⟨⟨seq, inc, 0, 2, s, l0⟩, B0, d0⟩] := by
      intro x hx
      simp only [List.mem_cons, List.not_mem_nil, or_false] at hx
      rcases hx with rfl | rfl
      · exact (HRL.out _ (by simp)).below hba (Nat.le_refl _)
      · exact (HRL.out _ (by simp)).below hba (Nat.le_refl _)
    refine hK'.out _ _ hba ?_
    clear hK' K' hbs
    refine plan_do (by rfl) (fun K' hK' => ?_)
    go_simp
    refine (fjoin_any _ [⟨⟨seq + 1, inc, 1, 2, s, l1⟩, B1, d1⟩, ⟨⟨seq, inc, 0, 2, s, l0⟩, B0, d0⟩] 2 2 _ hata hra rfl (by decide) (by decide) (by intro x hx; simp only [List.mem_cons, List.not_mem_nil, or_false] at hx; rcases hx with rfl | rfl; all_goals (simp only; omega))).mono ?_
    rintro e w6 ⟨⟨_, _, _, hy⟩ | ⟨rfl, -⟩, hww6⟩
    · exact absurd hy (mixed_no (.inr (.inr (by simp))))
    have hbw6 : Below w3.heap.size w3 w6 := hba.trans (hww6.mono hba.size)
    refine hK'.out _ _ hbw6 ?_
    clear hK' K' hata hra hba
    iterate 5
      first
        | (refine plan_still2 (v := ?_) (a' := ?_) (by rfl) (fun w' hS' => ?_) ?_ ?_; rotate_left 2; (focus (go_simp <;> with_reducible rfl)); (focus (simp only [Act.put, List.setIfInBounds_toArray, List.set_cons_zero, List.set_cons_succ] <;> rfl)))
        | (refine plan_skip2 (a' := ?_) (by rfl) ?_ ?_; rotate_left 1; (focus (simp only [Act.put, List.setIfInBounds_toArray, List.set_cons_zero, List.set_cons_succ] <;> rfl)))
    refine plan_nil ?_
    clear GL0 GL1 GL2 GL3 GL4 GL5 GL6 GL7 GL8 GL9 GL10 GL11 GM0 GM1 GM2 GM3 GM4 GM5 GM6 GM7 GM8 GM9 GM10 GM11
    go_wp2_with fail
    refine (wakes4_any _).mono ?_
    rintro e w7 ⟨rfl, hb7⟩
    have hb07 : Below w.heap.size w w7 := hb03.trans ((hbw6.trans (hb7.mono hbw6.size)).mono hb03.size)
    go_wp2_with fail
    go_ret
    exact ⟨rfl, hb07⟩
end Go.Proofs.Ytcaejcdmkihmbaa
