/- The walks of package stripe: Change. -/
import Derived.Test.YtbleebiffpkcmaaStripeQ
import Derived.Test.YtbleebiffpkcmaaMemRes
namespace Go.Proofs.Ytbleebiffpkcmaa
open Go.RowKit

theorem mp_set (V : Int) (of : List Int) (i : Nat) (x : Int) : (mp V of).set (i + 1) (.int .i64 x) = mp V (of.set i x) := by
  simp [mp, is, List.map_set]
theorem mp_set0 (V V' : Int) (of : List Int) : (mp V of).set 0 (.int .i64 V') = mp V' of := by simp [mp]

/-- may a change be made? -/
def St.may (V : Int) (of : List Int) (s t : Int) : Bool := St.ok V of && decide (0 ≤ s ∧ s < 8 ∧ 1 ≤ t ∧ t ≤ 4)

set_option maxRecDepth 100000 in
set_option maxHeartbeats 2000000 in
theorem change_yes (V : Int) (of : List Int) (s : Nat) (t : Int) (w : World) (h8 : of.length = 8) (hok : St.ok V of = true) (hs : s < 8) (ht1 : 1 ≤ t) (ht2 : t ≤ 4) (hV : V < 1099511627776) :
    Calls Try.prog 12 #[.agg (mp V of).toArray, .agg #[.int .i64 s, .int .i64 t]] w fun e w' => e = .returned (.tuple #[.agg (mp (V + 1) (of.set s t)).toArray, .int .i64 0]) ∧ Below w.heap.size w w' := by
  have H8 := Lib.hid h8
  have Hok := Lib.hid hok
  have Hz := Lib.hid (show (Try.prog.info? 34).map (·.size) = some 9 by kernel_rfl)
  obtain ⟨w1, hw1⟩ : ∃ w1, w1 = ((Bx w V of).alloc (.cells [Value.int .i64 s, .int .i64 t].toArray 36)).alloc (.cells (mp 0 (List.replicate 8 0)).toArray 34) := ⟨_, rfl⟩
  have hA0 : Blk (((Bx w V of).alloc (.cells [Value.int .i64 s, .int .i64 t].toArray 36)).alloc (.cells (mp 0 (List.replicate 8 0)).toArray 34)) w.heap.size 34 (mp V of) := ((Blk.new w 34 (mp V of)).alloc _).alloc _
  have hA : Blk w1 w.heap.size 34 (mp V of) := by rw [hw1]; exact hA0
  have hC : Blk w1 (w.heap.size + 1) 36 [.int .i64 s, .int .i64 t] := by
    have := Blk.new (Bx w V of) 36 [.int .i64 s, .int .i64 t]
    rw [World.size_alloc] at this
    rw [hw1]; exact this.alloc _
  have hR : Blk w1 (w.heap.size + 1 + 1) 34 (mp 0 (List.replicate 8 0)) := by
    have := Blk.new ((Bx w V of).alloc (.cells [Value.int .i64 s, .int .i64 t].toArray 36)) 34 (mp 0 (List.replicate 8 0))
    rw [World.size_alloc, World.size_alloc] at this
    rw [hw1]; exact this
  have hb01 : Below w.heap.size w w1 := by rw [hw1]; exact (((Below.refl _ _).alloc (Nat.le_refl _) _).alloc (by simp) _).alloc (by simp; omega) _
  have HA0 := Lib.hid hA0
  have HA := Lib.hid hA
  have HC := Lib.hid hC
  have HR := Lib.hid hR
  have Hw1 := Lib.hid hw1
  have Hs := Lib.hid (show (Try.prog.info? 34).map (·.size) = some (mp V of).toArray.size by rw [List.size_toArray, mp_length, h8]; exact Hz.out)
  have hs8 : (s : Int) < 8 := by omega
  have hVn : ¬ (V = 1099511627776) := by omega
  have hV0 : 0 ≤ V := by
    unfold St.ok at hok
    simp only [Bool.and_eq_true, decide_eq_true_eq] at hok
    omega
  clear hA0 hA hC hR hw1 h8 hok
  go_enter Try.func12, Try.ntmps12
  go_wp2_with (refine wpList_load_row rfl _ (.tmp 2) rfl w.heap.size rfl 34 (mp V of).toArray (0, 0) _ HA0.out Try.underlying34 rfl Hs.out ?_)
  change Calls _ _ _ (((Bx w V of).alloc (.cells [Value.int .i64 s, .int .i64 t].toArray 36)).alloc (.cells (mp 0 (List.replicate 8 0)).toArray 34)) _
  rw [← Hw1.out]
  refine (check_any V of _ H8.out).mono ?_
  rintro e w2 ⟨rfl, hb12⟩
  rw [Hok.out]
  simp only [if_true]
  have hA2 := HA.out.below hb12 HA.out.lt
  have hC2 := HC.out.below hb12 HC.out.lt
  have hR2 := HR.out.below hb12 HR.out.lt
  have hb02 : Below w.heap.size w w2 := hb01.trans (hb12.mono hb01.size)
  have a0 : w2.cell? ⟨w.heap.size, 0, none⟩ = some (.int .i64 V) := hA2.cell 0
  have c0 : w2.cell? ⟨w.heap.size + 1, 0, none⟩ = some (.int .i64 s) := hC2.cell 0
  have c1 : w2.cell? ⟨w.heap.size + 1, 1, none⟩ = some (.int .i64 t) := hC2.cell 1
  obtain ⟨v0, hv0⟩ : ∃ v, (mp V of)[1 + s]? = some v := ⟨_, List.getElem?_eq_getElem (by rw [mp_length, H8.out]; omega)⟩
  have aS : w2.cell? ⟨w.heap.size, 1 + s, none⟩ = some v0 := by rw [hA2.cell, hv0]
  have fS := hA2.frozen (1 + s)
  have f0 := hA2.frozen 0
  have hK : Blk ((w2.setCell ⟨w.heap.size, 1 + s, none⟩ (.int .i64 t)).setCell ⟨w.heap.size, 0, none⟩ (.int .i64 (V + 1))) w.heap.size 34 (mp (V + 1) (of.set s t)) := by
    have h := (hA2.set_ (1 + s) (.int .i64 t)).set_ 0 (.int .i64 (V + 1))
    rw [Nat.add_comm 1 s, mp_set, mp_set0, Nat.add_comm s 1] at h
    exact h
  have hR3 : Blk ((w2.setCell ⟨w.heap.size, 1 + s, none⟩ (.int .i64 t)).setCell ⟨w.heap.size, 0, none⟩ (.int .i64 (V + 1))) (w.heap.size + 1 + 1) 34 (mp 0 (List.replicate 8 0)) :=
    (hR2.far (by simp; omega) _).far (by simp; omega) _
  have hb03 : Below w.heap.size w ((w2.setCell ⟨w.heap.size, 1 + s, none⟩ (.int .i64 t)).setCell ⟨w.heap.size, 0, none⟩ (.int .i64 (V + 1))) := (hb02.setCell (Nat.le_refl _) _).setCell (Nat.le_refl _) _
  have HK := Lib.hid hK
  have HR3 := Lib.hid hR3
  have hlen : (mp (V + 1) (of.set s t)).length = 9 := by rw [mp_length, List.length_set, H8.out]
  have Hs2 := Lib.hid (show (Try.prog.info? 34).map (·.size) = some (mp (V + 1) (of.set s t)).toArray.size by rw [List.size_toArray, hlen]; exact Hz.out)
  have Hone := Lib.hid (show (mp (V + 1) (of.set s t)).toArray.all (·.oneCell') = true by rw [List.all_toArray, List.all_eq_true]; exact mp_one _ _)
  have Hsz := Lib.hid (show (mp 0 (List.replicate 8 0)).toArray.size = (mp (V + 1) (of.set s t)).toArray.size by rw [List.size_toArray, List.size_toArray, hlen]; rfl)
  clear hA2 hC2 hR2 hv0 hK hR3
  go_wp2_with (first
    | (refine wpList_load_row rfl _ (.tmp 2) rfl w.heap.size rfl 34 (mp (V + 1) (of.set s t)).toArray (0, 0) _ HK.out Try.underlying34 rfl Hs2.out ?_)
    | (refine wpList_store_row rfl _ (.tmp 4) (.tmp 46) rfl (w.heap.size + 1 + 1) (mp (V + 1) (of.set s t)).toArray rfl rfl 34 (mp 0 (List.replicate 8 0)).toArray HR3.out Hs2.out Hsz.out Hone.out ?_))
  refine bodyPost_ret (v := .tuple #[.agg (mp (V + 1) (of.set s t)).toArray, .int .i64 0]) ?_ rfl ⟨rfl, ?_⟩
  · exact results_cell_tmp_blk (p := 4) (u := 5) rfl _ _ rfl (HR3.out.row (mp (V + 1) (of.set s t))) Try.underlying34 rfl Hs2.out
  · exact below_setRow hb03 (by omega) _

set_option maxRecDepth 100000 in
set_option maxHeartbeats 2000000 in
theorem change_no (V : Int) (of : List Int) (s t : Int) (w : World) (h8 : of.length = 8) (hno : ¬ (St.ok V of = true ∧ 0 ≤ s ∧ s < 8 ∧ 1 ≤ t ∧ t ≤ 4 ∧ V ≠ 1099511627776)) :
    Calls Try.prog 12 #[.agg (mp V of).toArray, .agg #[.int .i64 s, .int .i64 t]] w fun e w' => ∃ x : Int, e = .returned (.tuple #[.agg (mp 0 (List.replicate 8 0)).toArray, .int .i64 x]) ∧ x ≠ 0 ∧ Below w.heap.size w w' := by
  have H8 := Lib.hid h8
  have Hz := Lib.hid (show (Try.prog.info? 34).map (·.size) = some 9 by kernel_rfl)
  obtain ⟨w1, hw1⟩ : ∃ w1, w1 = ((Bx w V of).alloc (.cells [Value.int .i64 s, .int .i64 t].toArray 36)).alloc (.cells (mp 0 (List.replicate 8 0)).toArray 34) := ⟨_, rfl⟩
  have hA0 : Blk (((Bx w V of).alloc (.cells [Value.int .i64 s, .int .i64 t].toArray 36)).alloc (.cells (mp 0 (List.replicate 8 0)).toArray 34)) w.heap.size 34 (mp V of) := ((Blk.new w 34 (mp V of)).alloc _).alloc _
  have hA : Blk w1 w.heap.size 34 (mp V of) := by rw [hw1]; exact hA0
  have hC : Blk w1 (w.heap.size + 1) 36 [.int .i64 s, .int .i64 t] := by
    have := Blk.new (Bx w V of) 36 [.int .i64 s, .int .i64 t]
    rw [World.size_alloc] at this
    rw [hw1]; exact this.alloc _
  have hR : Blk w1 (w.heap.size + 1 + 1) 34 (mp 0 (List.replicate 8 0)) := by
    have := Blk.new ((Bx w V of).alloc (.cells [Value.int .i64 s, .int .i64 t].toArray 36)) 34 (mp 0 (List.replicate 8 0))
    rw [World.size_alloc, World.size_alloc] at this
    rw [hw1]; exact this
  have hb01 : Below w.heap.size w w1 := by rw [hw1]; exact (((Below.refl _ _).alloc (Nat.le_refl _) _).alloc (by simp) _).alloc (by simp; omega) _
  have HA0 := Lib.hid hA0
  have HA := Lib.hid hA
  have HC := Lib.hid hC
  have HR := Lib.hid hR
  have Hw1 := Lib.hid hw1
  have Hs := Lib.hid (show (Try.prog.info? 34).map (·.size) = some (mp V of).toArray.size by rw [List.size_toArray, mp_length, h8]; exact Hz.out)
  have bl0 := fun (w : World) => run_build (P := Try.prog) w 34 #[] (mp 0 (List.replicate 8 0)).toArray (by kernel_rfl)
  have Hs2 := Lib.hid (show (Try.prog.info? 34).map (·.size) = some (mp 0 (List.replicate 8 0)).toArray.size by kernel_rfl)
  have Hone := Lib.hid (show (mp 0 (List.replicate 8 0)).toArray.all (·.oneCell') = true by rw [List.all_toArray, List.all_eq_true]; exact mp_one _ _)
  clear hA0 hA hC hR hw1 h8
  rcases Bool.eq_false_or_eq_true (St.ok V of) with hok | hok
  · have Hok := Lib.hid hok
    by_cases h1 : 0 ≤ s
    · by_cases h2 : s < 8
      · by_cases h3 : 1 ≤ t
        · by_cases h4 : t ≤ 4
          · have h5 : V = 1099511627776 := by
              rcases Int.lt_trichotomy V 1099511627776 with h | h | h
              · exact absurd ⟨hok, h1, h2, h3, h4, by omega⟩ hno
              · exact h
              · exact absurd ⟨hok, h1, h2, h3, h4, by omega⟩ hno
            clear hno hok
            subst h5
            go_enter Try.func12, Try.ntmps12
            go_wp2_with (refine wpList_load_row rfl _ (.tmp 2) rfl w.heap.size rfl 34 (mp 1099511627776 of).toArray (0, 0) _ HA0.out Try.underlying34 rfl Hs.out ?_)
            change Calls _ _ _ (((Bx w 1099511627776 of).alloc (.cells [Value.int .i64 s, .int .i64 t].toArray 36)).alloc (.cells (mp 0 (List.replicate 8 0)).toArray 34)) _
            rw [← Hw1.out]
            refine (check_any 1099511627776 of _ H8.out).mono ?_
            rintro e w2 ⟨rfl, hb12⟩
            rw [Hok.out]
            simp only [if_true]
            have hC2 := HC.out.below hb12 HC.out.lt
            have hR2 := Lib.hid (HR.out.below hb12 HR.out.lt)
            have hA2 := HA.out.below hb12 HA.out.lt
            have hb02 : Below w.heap.size w w2 := hb01.trans (hb12.mono hb01.size)
            have a0 : w2.cell? ⟨w.heap.size, 0, none⟩ = some (.int .i64 1099511627776) := hA2.cell 0
            have c0 : w2.cell? ⟨w.heap.size + 1, 0, none⟩ = some (.int .i64 s) := hC2.cell 0
            have c1 : w2.cell? ⟨w.heap.size + 1, 1, none⟩ = some (.int .i64 t) := hC2.cell 1
            clear hA2 hC2
            go_wp2_with (refine wpList_store_row rfl _ (.tmp 4) (.tmp 35) rfl (w.heap.size + 1 + 1) (mp 0 (List.replicate 8 0)).toArray rfl rfl 34 (mp 0 (List.replicate 8 0)).toArray hR2.out Hs2.out rfl Hone.out ?_)
            refine bodyPost_ret (v := .tuple #[.agg (mp 0 (List.replicate 8 0)).toArray, .int .i64 50]) ?_ rfl ⟨50, rfl, by decide, ?_⟩
            · exact results_cell_tmp_blk (p := 4) (u := 5) rfl _ _ rfl (hR2.out.row (mp 0 (List.replicate 8 0))) Try.underlying34 rfl Hs2.out
            · exact below_setRow hb02 (by omega) _
          · clear hno hok
            go_enter Try.func12, Try.ntmps12
            go_wp2_with (refine wpList_load_row rfl _ (.tmp 2) rfl w.heap.size rfl 34 (mp V of).toArray (0, 0) _ HA0.out Try.underlying34 rfl Hs.out ?_)
            change Calls _ _ _ (((Bx w V of).alloc (.cells [Value.int .i64 s, .int .i64 t].toArray 36)).alloc (.cells (mp 0 (List.replicate 8 0)).toArray 34)) _
            rw [← Hw1.out]
            refine (check_any V of _ H8.out).mono ?_
            rintro e w2 ⟨rfl, hb12⟩
            rw [Hok.out]
            simp only [if_true]
            have hC2 := HC.out.below hb12 HC.out.lt
            have hR2 := Lib.hid (HR.out.below hb12 HR.out.lt)
            have hA2 := HA.out.below hb12 HA.out.lt
            have hb02 : Below w.heap.size w w2 := hb01.trans (hb12.mono hb01.size)
            have a0 : w2.cell? ⟨w.heap.size, 0, none⟩ = some (.int .i64 V) := hA2.cell 0
            have c0 : w2.cell? ⟨w.heap.size + 1, 0, none⟩ = some (.int .i64 s) := hC2.cell 0
            have c1 : w2.cell? ⟨w.heap.size + 1, 1, none⟩ = some (.int .i64 t) := hC2.cell 1
            clear hA2 hC2
            go_wp2_with (refine wpList_store_row rfl _ (.tmp 4) (.tmp 30) rfl (w.heap.size + 1 + 1) (mp 0 (List.replicate 8 0)).toArray rfl rfl 34 (mp 0 (List.replicate 8 0)).toArray hR2.out Hs2.out rfl Hone.out ?_)
            refine bodyPost_ret (v := .tuple #[.agg (mp 0 (List.replicate 8 0)).toArray, .int .i64 2]) ?_ rfl ⟨2, rfl, by decide, ?_⟩
            · exact results_cell_tmp_blk (p := 4) (u := 5) rfl _ _ rfl (hR2.out.row (mp 0 (List.replicate 8 0))) Try.underlying34 rfl Hs2.out
            · exact below_setRow hb02 (by omega) _
        · clear hno hok
          go_enter Try.func12, Try.ntmps12
          go_wp2_with (refine wpList_load_row rfl _ (.tmp 2) rfl w.heap.size rfl 34 (mp V of).toArray (0, 0) _ HA0.out Try.underlying34 rfl Hs.out ?_)
          change Calls _ _ _ (((Bx w V of).alloc (.cells [Value.int .i64 s, .int .i64 t].toArray 36)).alloc (.cells (mp 0 (List.replicate 8 0)).toArray 34)) _
          rw [← Hw1.out]
          refine (check_any V of _ H8.out).mono ?_
          rintro e w2 ⟨rfl, hb12⟩
          rw [Hok.out]
          simp only [if_true]
          have hC2 := HC.out.below hb12 HC.out.lt
          have hR2 := Lib.hid (HR.out.below hb12 HR.out.lt)
          have hA2 := HA.out.below hb12 HA.out.lt
          have hb02 : Below w.heap.size w w2 := hb01.trans (hb12.mono hb01.size)
          have a0 : w2.cell? ⟨w.heap.size, 0, none⟩ = some (.int .i64 V) := hA2.cell 0
          have c0 : w2.cell? ⟨w.heap.size + 1, 0, none⟩ = some (.int .i64 s) := hC2.cell 0
          have c1 : w2.cell? ⟨w.heap.size + 1, 1, none⟩ = some (.int .i64 t) := hC2.cell 1
          clear hA2 hC2
          go_wp2_with (refine wpList_store_row rfl _ (.tmp 4) (.tmp 30) rfl (w.heap.size + 1 + 1) (mp 0 (List.replicate 8 0)).toArray rfl rfl 34 (mp 0 (List.replicate 8 0)).toArray hR2.out Hs2.out rfl Hone.out ?_)
          refine bodyPost_ret (v := .tuple #[.agg (mp 0 (List.replicate 8 0)).toArray, .int .i64 2]) ?_ rfl ⟨2, rfl, by decide, ?_⟩
          · exact results_cell_tmp_blk (p := 4) (u := 5) rfl _ _ rfl (hR2.out.row (mp 0 (List.replicate 8 0))) Try.underlying34 rfl Hs2.out
          · exact below_setRow hb02 (by omega) _
      · clear hno hok
        go_enter Try.func12, Try.ntmps12
        go_wp2_with (refine wpList_load_row rfl _ (.tmp 2) rfl w.heap.size rfl 34 (mp V of).toArray (0, 0) _ HA0.out Try.underlying34 rfl Hs.out ?_)
        change Calls _ _ _ (((Bx w V of).alloc (.cells [Value.int .i64 s, .int .i64 t].toArray 36)).alloc (.cells (mp 0 (List.replicate 8 0)).toArray 34)) _
        rw [← Hw1.out]
        refine (check_any V of _ H8.out).mono ?_
        rintro e w2 ⟨rfl, hb12⟩
        rw [Hok.out]
        simp only [if_true]
        have hC2 := HC.out.below hb12 HC.out.lt
        have hR2 := Lib.hid (HR.out.below hb12 HR.out.lt)
        have hA2 := HA.out.below hb12 HA.out.lt
        have hb02 : Below w.heap.size w w2 := hb01.trans (hb12.mono hb01.size)
        have a0 : w2.cell? ⟨w.heap.size, 0, none⟩ = some (.int .i64 V) := hA2.cell 0
        have c0 : w2.cell? ⟨w.heap.size + 1, 0, none⟩ = some (.int .i64 s) := hC2.cell 0
        have c1 : w2.cell? ⟨w.heap.size + 1, 1, none⟩ = some (.int .i64 t) := hC2.cell 1
        clear hA2 hC2
        go_wp2_with (refine wpList_store_row rfl _ (.tmp 4) (.tmp 30) rfl (w.heap.size + 1 + 1) (mp 0 (List.replicate 8 0)).toArray rfl rfl 34 (mp 0 (List.replicate 8 0)).toArray hR2.out Hs2.out rfl Hone.out ?_)
        refine bodyPost_ret (v := .tuple #[.agg (mp 0 (List.replicate 8 0)).toArray, .int .i64 2]) ?_ rfl ⟨2, rfl, by decide, ?_⟩
        · exact results_cell_tmp_blk (p := 4) (u := 5) rfl _ _ rfl (hR2.out.row (mp 0 (List.replicate 8 0))) Try.underlying34 rfl Hs2.out
        · exact below_setRow hb02 (by omega) _
    · clear hno hok
      go_enter Try.func12, Try.ntmps12
      go_wp2_with (refine wpList_load_row rfl _ (.tmp 2) rfl w.heap.size rfl 34 (mp V of).toArray (0, 0) _ HA0.out Try.underlying34 rfl Hs.out ?_)
      change Calls _ _ _ (((Bx w V of).alloc (.cells [Value.int .i64 s, .int .i64 t].toArray 36)).alloc (.cells (mp 0 (List.replicate 8 0)).toArray 34)) _
      rw [← Hw1.out]
      refine (check_any V of _ H8.out).mono ?_
      rintro e w2 ⟨rfl, hb12⟩
      rw [Hok.out]
      simp only [if_true]
      have hC2 := HC.out.below hb12 HC.out.lt
      have hR2 := Lib.hid (HR.out.below hb12 HR.out.lt)
      have hA2 := HA.out.below hb12 HA.out.lt
      have hb02 : Below w.heap.size w w2 := hb01.trans (hb12.mono hb01.size)
      have a0 : w2.cell? ⟨w.heap.size, 0, none⟩ = some (.int .i64 V) := hA2.cell 0
      have c0 : w2.cell? ⟨w.heap.size + 1, 0, none⟩ = some (.int .i64 s) := hC2.cell 0
      have c1 : w2.cell? ⟨w.heap.size + 1, 1, none⟩ = some (.int .i64 t) := hC2.cell 1
      clear hA2 hC2
      go_wp2_with (refine wpList_store_row rfl _ (.tmp 4) (.tmp 30) rfl (w.heap.size + 1 + 1) (mp 0 (List.replicate 8 0)).toArray rfl rfl 34 (mp 0 (List.replicate 8 0)).toArray hR2.out Hs2.out rfl Hone.out ?_)
      refine bodyPost_ret (v := .tuple #[.agg (mp 0 (List.replicate 8 0)).toArray, .int .i64 2]) ?_ rfl ⟨2, rfl, by decide, ?_⟩
      · exact results_cell_tmp_blk (p := 4) (u := 5) rfl _ _ rfl (hR2.out.row (mp 0 (List.replicate 8 0))) Try.underlying34 rfl Hs2.out
      · exact below_setRow hb02 (by omega) _
  · have Hok := Lib.hid hok
    clear hno hok
    go_enter Try.func12, Try.ntmps12
    go_wp2_with (refine wpList_load_row rfl _ (.tmp 2) rfl w.heap.size rfl 34 (mp V of).toArray (0, 0) _ HA0.out Try.underlying34 rfl Hs.out ?_)
    change Calls _ _ _ (((Bx w V of).alloc (.cells [Value.int .i64 s, .int .i64 t].toArray 36)).alloc (.cells (mp 0 (List.replicate 8 0)).toArray 34)) _
    rw [← Hw1.out]
    refine (check_any V of _ H8.out).mono ?_
    rintro e w2 ⟨rfl, hb12⟩
    rw [Hok.out]
    simp only [Bool.false_eq_true, if_false]
    have hC2 := HC.out.below hb12 HC.out.lt
    have hR2 := Lib.hid (HR.out.below hb12 HR.out.lt)
    have hA2 := HA.out.below hb12 HA.out.lt
    have hb02 : Below w.heap.size w w2 := hb01.trans (hb12.mono hb01.size)
    clear hA2 hC2
    go_wp2_with (refine wpList_store_row rfl _ (.tmp 4) (.tmp 30) rfl (w.heap.size + 1 + 1) (mp 0 (List.replicate 8 0)).toArray rfl rfl 34 (mp 0 (List.replicate 8 0)).toArray hR2.out Hs2.out rfl Hone.out ?_)
    refine bodyPost_ret (v := .tuple #[.agg (mp 0 (List.replicate 8 0)).toArray, .int .i64 2]) ?_ rfl ⟨2, rfl, by decide, ?_⟩
    · exact results_cell_tmp_blk (p := 4) (u := 5) rfl _ _ rfl (hR2.out.row (mp 0 (List.replicate 8 0))) Try.underlying34 rfl Hs2.out
    · exact below_setRow hb02 (by omega) _
end Go.Proofs.Ytbleebiffpkcmaa
