/- The walk of the law RingPlaces. -/
import Derived.Test.YtbleebiffpkcmaaRingW
import Derived.Maps.OwnSet
import Derived.Maps.OwnOps
namespace Go.Proofs.Ytbleebiffpkcmaa
open Go.RowKit Go.WideShapes

theorem wf_i64 {n : Int} (h1 : -9223372036854775808 ≤ n) (h2 : n ≤ 9223372036854775807) : (Lit.int .i64 n).wf = true := by
  simp [Lit.wf, IntKind.min, IntKind.max, IntKind.signed, IntKind.bits]; omega

theorem own_map_below {H : Type} {P : Program} {k : TypeId} {R : Value → Option (DataW H × List MemPlace)} {w w' : World} {b n B : Nat} {D : DataW H} (h : w.ownsMap P k R b n D) (hb : Below B w w') (hB : b < B) : w'.ownsMap P k R b n D := by
  obtain ⟨es, clock, hb', r⟩ := h
  exact ⟨es, clock, (hb.block b hB).trans hb', r⟩

/-- where the i-th sequence from t on stands -/
def placeOf (t : Int) (i : Nat) : Int := 2 + (t + (i : Int)) % 24

set_option maxRecDepth 100000 in
set_option maxHeartbeats 1000000 in
theorem rplaces_no (t n : Int) (w : World) (hmay : Rg.may t n = false) :
    Calls Try.prog 3 #[.agg #[.int .i64 t, .int .i64 n]] w fun e w' => e = .returned (.bool true) ∧ Below w.heap.size w w' := by
  have H1 := Lib.hid hmay
  have hu : Rg.used t n = 0 := by unfold Rg.used; rw [hmay]; rfl
  have hf : Rg.free t n = 0 := by unfold Rg.free; rw [hmay]; rfl
  have Hu := Lib.hid hu
  have Hf := Lib.hid hf
  clear hmay hu hf
  obtain ⟨w1, hw1⟩ : ∃ w1, w1 = w.alloc (.cells (P2 t n).toArray 23) := ⟨_, rfl⟩
  have hb01 : Below w.heap.size w w1 := by rw [hw1]; exact (Below.refl _ _).alloc (Nat.le_refl _) _
  have HB1 := Lib.hid (show Blk w1 w.heap.size 23 (P2 t n) by rw [hw1]; exact Blk.new w 23 (P2 t n))
  have Hw1 := Lib.hid hw1
  clear hw1
  go_enter Try.func3, Try.ntmps3
  go_wp2_with fail
  change Calls _ _ _ (w.alloc (.cells (P2 t n).toArray 23)) _
  rw [← Hw1.out]
  refine (may_any t n _).mono ?_
  rintro e w2 ⟨rfl, hb12⟩
  rw [H1.out]
  have hK2 := HB1.out.below hb12 HB1.out.lt
  have c0 : w2.cell? ⟨w.heap.size, 0, none⟩ = some (.int .i64 t) := hK2.cell 0
  have c1 : w2.cell? ⟨w.heap.size, 1, none⟩ = some (.int .i64 n) := hK2.cell 1
  have hb02 : Below w.heap.size w w2 := hb01.trans (hb12.mono hb01.size)
  go_wp2_with fail
  refine (used_any t n _).mono ?_
  rintro e w3 ⟨rfl, hb23⟩
  rw [Hu.out]
  have hK3 := hK2.below hb23 hK2.lt
  have d0 : w3.cell? ⟨w.heap.size, 0, none⟩ = some (.int .i64 t) := hK3.cell 0
  have d1 : w3.cell? ⟨w.heap.size, 1, none⟩ = some (.int .i64 n) := hK3.cell 1
  have hb03 : Below w.heap.size w w3 := hb02.trans (hb23.mono hb02.size)
  clear c0 c1
  go_wp2_with fail
  refine (free_any t n _).mono ?_
  rintro e w4 ⟨rfl, hb34⟩
  rw [Hf.out]
  have hb04 : Below w.heap.size w w4 := hb03.trans (hb34.mono hb03.size)
  clear d0 d1
  go_wp2_with fail
  refine (wakes5_any _).mono ?_
  rintro e w5 ⟨rfl, hb45⟩
  go_wp2_with fail
  go_ret
  exact ⟨rfl, hb04.trans (hb45.mono hb04.size)⟩

set_option maxRecDepth 100000 in
set_option maxHeartbeats 4000000 in
theorem rplaces_yes (t n : Int) (w : World) (hmay : Rg.may t n = true) :
    Calls Try.prog 3 #[.agg #[.int .i64 t, .int .i64 n]] w fun e w' => e = .returned (.bool true) ∧ Below w.heap.size w w' := by
  have H1 := Lib.hid hmay
  obtain ⟨q1, q2, q3, q4⟩ := Rg.may_parts hmay
  have Q2 := Lib.hid q2
  obtain ⟨w1, hw1⟩ : ∃ w1, w1 = w.alloc (.cells (P2 t n).toArray 23) := ⟨_, rfl⟩
  have hb01 : Below w.heap.size w w1 := by rw [hw1]; exact (Below.refl _ _).alloc (Nat.le_refl _) _
  have HB1 := Lib.hid (show Blk w1 w.heap.size 23 (P2 t n) by rw [hw1]; exact Blk.new w 23 (P2 t n))
  have Hw1 := Lib.hid hw1
  have hmm := @run_makeMap Try.prog
  clear hw1 hmay q2
  go_enter Try.func3, Try.ntmps3
  go_wp2_with fail
  change Calls _ _ _ (w.alloc (.cells (P2 t n).toArray 23)) _
  rw [← Hw1.out]
  refine (may_any t n _).mono ?_
  rintro e w2 ⟨rfl, hb12⟩
  rw [H1.out]
  have hK2 := HB1.out.below hb12 HB1.out.lt
  have c0 : w2.cell? ⟨w.heap.size, 0, none⟩ = some (.int .i64 t) := hK2.cell 0
  have c1 : w2.cell? ⟨w.heap.size, 1, none⟩ = some (.int .i64 n) := hK2.cell 1
  have hb02 : Below w.heap.size w w2 := hb01.trans (hb12.mono hb01.size)
  have hlt2 := hK2.lt
  go_wp2_with fail
  have hm0 : (w2.alloc (.map #[] 0)).ownsMap (H := Unit) Try.prog 3 (plainElem Try.prog 4) w2.heap.size 0 (.map []) := World.ownsMap_made w2 _ _ _
  have hB3 := hK2.alloc (.map #[] 0)
  have hb03 : Below w.heap.size w (w2.alloc (.map #[] 0)) := hb02.alloc hb02.size _
  have K := Maps.int_keyed (P := Try.prog) Try.underlying3
  clear c0 c1
  go_loopw [4] (fun i wr => ∃ (k : Nat) (D : DataW Unit), (k : Int) ≤ n - t ∧ i = .int .i64 (t + k) ∧ Hid (wr.ownsMap (H := Unit) Try.prog 3 (plainElem Try.prog 4) w2.heap.size k D) ∧ Hid (Maps.size D = k) ∧
    Hid (∀ i : Nat, k ≤ i → i < 24 → Maps.has D (.int .i64 (placeOf t i)) = false) ∧ Hid (Blk wr w.heap.size 23 (P2 t n)) ∧ Below w.heap.size w wr) (fun i _ => (n - intOf i).toNat)
  case atStart => exact ⟨0, _, by omega, by simp, hm0, rfl, fun _ _ _ => rfl, hB3, hb03⟩
  case round =>
    obtain ⟨k, D, hk, rfl, hown, hsize, hfree, hB, hb⟩ := hrel
    by_cases hlt : t + (k : Int) < n
    · have c0 : wr.cell? ⟨w.heap.size, 0, none⟩ = some (.int .i64 t) := hB.out.cell 0
      have c1 : wr.cell? ⟨w.heap.size, 1, none⟩ = some (.int .i64 n) := hB.out.cell 1
      by_cases hs : t + (k : Int) ≤ 1099511627776
      · have hk24 : k < 24 := by omega
        have hplace := place_yes (t + (k : Int)) wr (by omega) hs
        have hgt : ¬ (1099511627776 < t + (k : Int)) := by omega
        have hp1 : 2 ≤ 2 + (t + (k : Int)) % 24 := by omega
        have hp2 : 2 + (t + (k : Int)) % 24 < 26 := by omega
        have hkey : keyOf Try.prog 3 (.int .i64 (2 + (t + (k : Int)) % 24)) = some (.int .i64 (2 + (t + (k : Int)) % 24)) := Maps.keyOf_int_mk Try.underlying3 (wf_i64 (by omega) (by omega))
        obtain ⟨v, ps, hrun, hv⟩ := hown.out.lookup K Try.underlying27 (z := .bool false) (by kernel_rfl) (plainElem_bool Try.underlying4 false) hkey
        have hnot := hfree.out k (Nat.le_refl _) hk24
        unfold placeOf at hnot
        rw [Maps.atKey_of_not_has hnot] at hv
        have hvf : v = .bool false := by
          unfold plainElem at hv
          rw [Try.underlying4] at hv
          cases v <;> simp at hv
          rw [hv.1]
        subst hvf
        have Hhas := Lib.hid (show Rg.has t n (t + (k : Int)) = true by
          unfold Rg.has Rg.within; rw [H1.out]; simp; omega)
        have Hnot := Lib.hid hnot
        have Hkey := Lib.hid hkey
        have Hplace := Lib.hid hplace
        clear hs hplace hnot hkey hv
        go_wp2_with fail
        refine Hplace.out.mono ?_
        rintro e w3 ⟨rfl, hw3⟩
        subst hw3
        go_wp2_with fail
        refine (has_any t n (t + (k : Int)) _).mono ?_
        rintro e w3 ⟨rfl, hb3⟩
        rw [Hhas.out]
        have HO3 := Lib.hid (own_map_below hown.out hb3 hown.out.lt)
        have HB3 := Lib.hid (hB.out.below hb3 hB.out.lt)
        have hbl := hown.out.lt
        have hkm : k < maxLen := by unfold maxLen; omega
        have hb03' : Below w.heap.size w w3 := hb.trans (hb3.mono hb.size)
        clear hrun c0 c1
        go_wp2_with (refine wpList_mapUpdate_own _ rfl _ _ _ 27 rfl 3 4 K Try.underlying27 _ w2.heap.size k D rfl HO3.out hkm _ _ _ rfl rfl Hkey.out _ [] (plainElem_bool Try.underlying4 true) ?_; intro w4 hown4 hgrow4)
        go_roundw
        case rel =>
          refine ⟨k + 1, _, by omega, by congr 1; omega, hown4, ?_, ?_, HB3.out.grown hgrow4 (by simp; omega), hb03'.grown hgrow4 hb03'.size (fun j e => by cases e; exact hb02.size)⟩
          · unfold Hid
            rw [Maps.size_put (HO3.out.tidy K), Hnot.out, hsize.out]; simp
          · intro i hi1 hi2
            rw [Maps.has_put_other]
            · exact hfree.out i (by omega) hi2
            · unfold placeOf
              intro e
              injection e with _ e
              omega
        case measure => simp [intOf]; omega
      · have hplace := place_no (t + (k : Int)) wr (by omega)
        have hgt : 1099511627776 < t + (k : Int) := by omega
        have Hplace := Lib.hid hplace
        clear hs hplace
        go_wp2_with fail
        refine Hplace.out.mono ?_
        rintro e w3 ⟨rfl, hw3⟩
        subst hw3
        go_wp2_with fail
        refine (wakes5_any _).mono ?_
        rintro e w5 ⟨rfl, hb5⟩
        go_wp2_with fail
        go_ret
        exact ⟨rfl, hb.trans (hb5.mono hb.size)⟩
    · have c0 : wr.cell? ⟨w.heap.size, 0, none⟩ = some (.int .i64 t) := hB.out.cell 0
      have c1 : wr.cell? ⟨w.heap.size, 1, none⟩ = some (.int .i64 n) := hB.out.cell 1
      have hkn : (k : Int) = n - t := by omega
      have Hkn := Lib.hid hkn
      have hlt' : ¬ (t + (k : Int) < n) := hlt
      clear hkn hk hfree
      go_wp2_with fail
      have F0 : ∀ w', Below wr.heap.size wr w' → w'.cell? ⟨w.heap.size, 0, none⟩ = some (.int .i64 t) := fun w' h => (h.cell (p := ⟨w.heap.size, 0, none⟩) hB.out.lt).trans c0
      have F1 : ∀ w', Below wr.heap.size wr w' → w'.cell? ⟨w.heap.size, 1, none⟩ = some (.int .i64 n) := fun w' h => (h.cell (p := ⟨w.heap.size, 1, none⟩) hB.out.lt).trans c1
      have FL : ∀ w' ty, Below wr.heap.size wr w' → (Builtin.len_ #[27] ty #[.map (some w2.heap.size)]).run Try.prog w' = .ok (.int .i64 (n - t)) w' := fun w' ty h => by
        have := (own_map_below hown.out h hown.out.lt).len Try.underlying27 ty
        rw [hsize.out, Hkn.out] at this
        exact this
      have Hu := Lib.hid (show Rg.used t n = n - t by unfold Rg.used; rw [if_pos H1.out])
      have Hf := Lib.hid (show Rg.free t n = 24 - (n - t) by unfold Rg.free; rw [if_pos H1.out])
      have Hn := Lib.hid (show Rg.has t n n = false by unfold Rg.has Rg.within; rw [H1.out]; simp; omega)
      have Ht := Lib.hid (show Rg.has t n (t - 1) = false by unfold Rg.has Rg.within; rw [H1.out]; simp; omega)
      have hbwrr : Below wr.heap.size wr wr.drew := (Below.refl _ _).drew
      have hww : IntKind.i64.wrap ((n - t) + (24 - (n - t))) = 24 := by rw [show (n - t) + (24 - (n - t)) = 24 by omega]; decide
      have hw1' : IntKind.i64.wrap (t - 1) = t - 1 := IntWalk.i64_in _ (by have := Q2.out; omega)
      clear c0 c1 hlt hlt'
      refine region_plan (S := fun w' => Below wr.heap.size wr w') [(true, 0), (true, 1), (true, 2), (false, 3), (true, 4), (true, 5), (true, 6), (true, 8), (false, 7), (false, 9), (true, 10), (true, 11), (true, 12), (true, 13), (true, 14), (true, 15), (true, 16), (false, 17), (true, 18), (true, 19), (true, 20), (true, 21), (true, 22), (true, 23), (true, 24), (false, 25), (true, 26), (true, 27), (true, 28), (false, 29), (true, 30), (true, 31)] (by kernel_rfl) (by kernel_rfl) (by kernel_rfl) rfl hbwrr ?_
      simp only [planned_nil, planned_cons, nth_zero, nth_succ]
      iterate 3
        refine plan_still (v := ?_) (by rfl) (fun w' hS' => ?_) ?_
        rotate_left
        focus (go_simp <;> with_reducible rfl)
        try simp only [Act.put, List.setIfInBounds_toArray, List.set_cons_zero, List.set_cons_succ]
      refine plan_do (by rfl) (fun K' hK' => ?_)
      go_simp
      refine (used_any t n _).mono ?_
      rintro e w3 ⟨rfl, hw3⟩
      rw [Hu.out]
      have hbw3 : Below wr.heap.size wr w3 := hbwrr.trans (hw3.mono hbwrr.size)
      refine hK'.out _ _ hbw3 ?_
      clear hK' K'
      iterate 4
        refine plan_still (v := ?_) (by rfl) (fun w' hS' => ?_) ?_
        rotate_left
        focus (go_simp <;> with_reducible rfl)
        try simp only [Act.put, List.setIfInBounds_toArray, List.set_cons_zero, List.set_cons_succ]
      refine plan_do (by rfl) (fun K' hK' => ?_)
      go_simp
      refine (used_any t n _).mono ?_
      rintro e w4 ⟨rfl, hw4⟩
      rw [Hu.out]
      have hbw4 : Below wr.heap.size wr w4 := hbw3.trans (hw4.mono hbw3.size)
      refine hK'.out _ _ hbw4 ?_
      clear hK' K'
      refine plan_do (by rfl) (fun K' hK' => ?_)
      go_simp
      refine (free_any t n _).mono ?_
      rintro e w5 ⟨rfl, hw5⟩
      rw [Hf.out]
      have hbw5 : Below wr.heap.size wr w5 := hbw4.trans (hw5.mono hbw4.size)
      refine hK'.out _ _ hbw5 ?_
      clear hK' K'
      iterate 7
        refine plan_still (v := ?_) (by rfl) (fun w' hS' => ?_) ?_
        rotate_left
        focus (go_simp <;> with_reducible rfl)
        try simp only [Act.put, List.setIfInBounds_toArray, List.set_cons_zero, List.set_cons_succ]
      refine plan_do (by rfl) (fun K' hK' => ?_)
      go_simp
      refine (has_any t n n _).mono ?_
      rintro e w6 ⟨rfl, hw6⟩
      rw [Hn.out]
      have hbw6 : Below wr.heap.size wr w6 := hbw5.trans (hw6.mono hbw5.size)
      refine hK'.out _ _ hbw6 ?_
      clear hK' K'
      iterate 7
        refine plan_still (v := ?_) (by rfl) (fun w' hS' => ?_) ?_
        rotate_left
        focus (go_simp <;> with_reducible rfl)
        try simp only [Act.put, List.setIfInBounds_toArray, List.set_cons_zero, List.set_cons_succ]
      refine plan_do (by rfl) (fun K' hK' => ?_)
      go_simp
      refine (has_any t n (t - 1) _).mono ?_
      rintro e w7 ⟨rfl, hw7⟩
      rw [Ht.out]
      have hbw7 : Below wr.heap.size wr w7 := hbw6.trans (hw7.mono hbw6.size)
      refine hK'.out _ _ hbw7 ?_
      clear hK' K'
      iterate 3
        refine plan_still (v := ?_) (by rfl) (fun w' hS' => ?_) ?_
        rotate_left
        focus (go_simp <;> with_reducible rfl)
        try simp only [Act.put, List.setIfInBounds_toArray, List.set_cons_zero, List.set_cons_succ]
      refine plan_do (by rfl) (fun K' hK' => ?_)
      go_simp
      refine (wakes5_any _).mono ?_
      rintro e w8 ⟨rfl, hw8⟩
      have hbw8 : Below wr.heap.size wr w8 := hbw7.trans (hw8.mono hbw7.size)
      refine hK'.out _ _ hbw8 ?_
      clear hK' K'
      iterate 2
        refine plan_still (v := ?_) (by rfl) (fun w' hS' => ?_) ?_
        rotate_left
        focus (go_simp <;> with_reducible rfl)
        try simp only [Act.put, List.setIfInBounds_toArray, List.set_cons_zero, List.set_cons_succ]
      refine plan_nil ?_
      go_wp2_with fail
      go_ret
      exact ⟨rfl, hb.trans (hbw8.mono hb.size)⟩
end Go.Proofs.Ytbleebiffpkcmaa
