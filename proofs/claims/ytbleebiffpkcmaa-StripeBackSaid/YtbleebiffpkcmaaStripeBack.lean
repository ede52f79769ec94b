/- The walk of the law StripeBack. -/
import Derived.Test.YtbleebiffpkcmaaStripeI
namespace Go.Proofs.Ytbleebiffpkcmaa
open Go.RowKit

set_option maxRecDepth 100000 in
set_option maxHeartbeats 40000000 in
theorem sback_one (V U' : Int) (oa ob : List Int) (w : World) (ha8 : oa.length = 8) (hb8 : ob.length = 8) (hoka : St.ok V oa = false) :
    Calls Try.prog 5 #[.agg (mp V oa).toArray, .agg (mp U' ob).toArray] w fun e w' => e = .returned (.bool true) ∧ Below w.heap.size w w' := by
  have Hoka := Lib.hid hoka
  clear hoka
  have HA8 := Lib.hid ha8
  have HB8 := Lib.hid hb8
  obtain ⟨w1, hw1⟩ : ∃ w1, w1 = Bx (Bx w V oa) U' ob := ⟨_, rfl⟩
  have hb01 : Below w.heap.size w w1 := by rw [hw1]; exact ((Below.refl _ _).alloc (Nat.le_refl _) _).alloc (by rw [World.size_alloc]; omega) _
  have hBa0 : Blk (Bx (Bx w V oa) U' ob) w.heap.size 34 (mp V oa) := (Blk.new w 34 (mp V oa)).alloc _
  have hBb0 : Blk (Bx (Bx w V oa) U' ob) (w.heap.size + 1) 34 (mp U' ob) := by
    have h := Blk.new (Bx w V oa) 34 (mp U' ob)
    rwa [World.size_alloc] at h
  have HBa0 := Lib.hid hBa0
  have HBa1 := Lib.hid (show Blk w1 w.heap.size 34 (mp V oa) by rw [hw1]; exact hBa0)
  have HBb1 := Lib.hid (show Blk w1 (w.heap.size + 1) 34 (mp U' ob) by rw [hw1]; exact hBb0)
  have Hw1 := Lib.hid hw1
  clear ha8 hb8 hw1 hBa0 hBb0
  go_enter Try.func5, Try.ntmps5
  go_wp2_with (refine wpList_load_map (by rfl) (.tmp 2) rfl w.heap.size rfl V oa HA8.out HBa0.out ?_)
  change Calls _ _ _ (Bx (Bx w V oa) U' ob) _
  rw [← Hw1.out]
  refine (check_any V oa _ HA8.out).mono ?_
  rintro e w2 ⟨rfl, hb12⟩
  rw [Hoka.out]
  have HBa2 := Lib.hid (HBa1.out.below hb12 HBa1.out.lt)
  have HBb2 := Lib.hid (HBb1.out.below hb12 HBb1.out.lt)
  have hb02 : Below w.heap.size w w2 := hb01.trans (hb12.mono hb01.size)
  simp only [Bool.false_eq_true, if_false]
  go_wp2_with fail
  refine (wakes22_any _).mono ?_
  rintro e wz ⟨rfl, hbz⟩
  have hfin := (hb02).trans (hbz.mono (hb02).size)
  go_wp2_with fail
  go_ret
  exact ⟨rfl, hfin⟩

set_option maxRecDepth 100000 in
set_option maxHeartbeats 40000000 in
theorem sback_two (V U' : Int) (oa ob : List Int) (w : World) (ha8 : oa.length = 8) (hb8 : ob.length = 8) (hoka : St.ok V oa = true) (hokb : St.ok U' ob = false) :
    Calls Try.prog 5 #[.agg (mp V oa).toArray, .agg (mp U' ob).toArray] w fun e w' => e = .returned (.bool true) ∧ Below w.heap.size w w' := by
  have Hoka := Lib.hid hoka
  have Hokb := Lib.hid hokb
  clear hoka hokb
  have HA8 := Lib.hid ha8
  have HB8 := Lib.hid hb8
  obtain ⟨w1, hw1⟩ : ∃ w1, w1 = Bx (Bx w V oa) U' ob := ⟨_, rfl⟩
  have hb01 : Below w.heap.size w w1 := by rw [hw1]; exact ((Below.refl _ _).alloc (Nat.le_refl _) _).alloc (by rw [World.size_alloc]; omega) _
  have hBa0 : Blk (Bx (Bx w V oa) U' ob) w.heap.size 34 (mp V oa) := (Blk.new w 34 (mp V oa)).alloc _
  have hBb0 : Blk (Bx (Bx w V oa) U' ob) (w.heap.size + 1) 34 (mp U' ob) := by
    have h := Blk.new (Bx w V oa) 34 (mp U' ob)
    rwa [World.size_alloc] at h
  have HBa0 := Lib.hid hBa0
  have HBa1 := Lib.hid (show Blk w1 w.heap.size 34 (mp V oa) by rw [hw1]; exact hBa0)
  have HBb1 := Lib.hid (show Blk w1 (w.heap.size + 1) 34 (mp U' ob) by rw [hw1]; exact hBb0)
  have Hw1 := Lib.hid hw1
  clear ha8 hb8 hw1 hBa0 hBb0
  go_enter Try.func5, Try.ntmps5
  go_wp2_with (refine wpList_load_map (by rfl) (.tmp 2) rfl w.heap.size rfl V oa HA8.out HBa0.out ?_)
  change Calls _ _ _ (Bx (Bx w V oa) U' ob) _
  rw [← Hw1.out]
  refine (check_any V oa _ HA8.out).mono ?_
  rintro e w2 ⟨rfl, hb12⟩
  rw [Hoka.out]
  have HBa2 := Lib.hid (HBa1.out.below hb12 HBa1.out.lt)
  have HBb2 := Lib.hid (HBb1.out.below hb12 HBb1.out.lt)
  have hb02 : Below w.heap.size w w2 := hb01.trans (hb12.mono hb01.size)
  simp only [if_true]
  go_wp2_with (refine wpList_load_map (by rfl) (.tmp 3) rfl (w.heap.size + 1) rfl U' ob HB8.out HBb2.out ?_)
  refine (check_any U' ob _ HB8.out).mono ?_
  rintro e w3 ⟨rfl, hb23⟩
  rw [Hokb.out]
  have HBa3 := Lib.hid (HBa2.out.below hb23 HBa2.out.lt)
  have HBb3 := Lib.hid (HBb2.out.below hb23 HBb2.out.lt)
  have hb03 : Below w.heap.size w w3 := hb02.trans (hb23.mono hb02.size)
  clear hb12 hb23
  simp only [Bool.false_eq_true, if_false]
  go_wp2_with fail
  refine (wakes22_any _).mono ?_
  rintro e wz ⟨rfl, hbz⟩
  have hfin := (hb03).trans (hbz.mono (hb03).size)
  go_wp2_with fail
  go_ret
  exact ⟨rfl, hfin⟩

set_option maxRecDepth 100000 in
set_option maxHeartbeats 40000000 in
theorem sback_main (V U' : Int) (oa ob : List Int) (w : World) (ha8 : oa.length = 8) (hb8 : ob.length = 8) (hoka : St.ok V oa = true) (hokb : St.ok U' ob = true) :
    Calls Try.prog 5 #[.agg (mp V oa).toArray, .agg (mp U' ob).toArray] w fun e w' => e = .returned (.bool true) ∧ Below w.heap.size w w' := by
  have Hoka := Lib.hid hoka
  have Hokb := Lib.hid hokb
  clear hoka hokb
  have HA8 := Lib.hid ha8
  have HB8 := Lib.hid hb8
  obtain ⟨w1, hw1⟩ : ∃ w1, w1 = Bx (Bx w V oa) U' ob := ⟨_, rfl⟩
  have hb01 : Below w.heap.size w w1 := by rw [hw1]; exact ((Below.refl _ _).alloc (Nat.le_refl _) _).alloc (by rw [World.size_alloc]; omega) _
  have hBa0 : Blk (Bx (Bx w V oa) U' ob) w.heap.size 34 (mp V oa) := (Blk.new w 34 (mp V oa)).alloc _
  have hBb0 : Blk (Bx (Bx w V oa) U' ob) (w.heap.size + 1) 34 (mp U' ob) := by
    have h := Blk.new (Bx w V oa) 34 (mp U' ob)
    rwa [World.size_alloc] at h
  have HBa0 := Lib.hid hBa0
  have HBa1 := Lib.hid (show Blk w1 w.heap.size 34 (mp V oa) by rw [hw1]; exact hBa0)
  have HBb1 := Lib.hid (show Blk w1 (w.heap.size + 1) 34 (mp U' ob) by rw [hw1]; exact hBb0)
  have Hw1 := Lib.hid hw1
  clear ha8 hb8 hw1 hBa0 hBb0
  go_enter Try.func5, Try.ntmps5
  go_wp2_with (refine wpList_load_map (by rfl) (.tmp 2) rfl w.heap.size rfl V oa HA8.out HBa0.out ?_)
  change Calls _ _ _ (Bx (Bx w V oa) U' ob) _
  rw [← Hw1.out]
  refine (check_any V oa _ HA8.out).mono ?_
  rintro e w2 ⟨rfl, hb12⟩
  rw [Hoka.out]
  have HBa2 := Lib.hid (HBa1.out.below hb12 HBa1.out.lt)
  have HBb2 := Lib.hid (HBb1.out.below hb12 HBb1.out.lt)
  have hb02 : Below w.heap.size w w2 := hb01.trans (hb12.mono hb01.size)
  simp only [if_true]
  go_wp2_with (refine wpList_load_map (by rfl) (.tmp 3) rfl (w.heap.size + 1) rfl U' ob HB8.out HBb2.out ?_)
  refine (check_any U' ob _ HB8.out).mono ?_
  rintro e w3 ⟨rfl, hb23⟩
  rw [Hokb.out]
  have HBa3 := Lib.hid (HBa2.out.below hb23 HBa2.out.lt)
  have HBb3 := Lib.hid (HBb2.out.below hb23 HBb2.out.lt)
  have hb03 : Below w.heap.size w w3 := hb02.trans (hb23.mono hb02.size)
  clear hb12 hb23
  simp only [if_true]
  have hz44 : ∀ w' : World, (zeroValue 44).run Try.prog w' = .ok (.agg (seenv oa 0).toArray) w' := by
    intro w'
    rw [← seenv_zero oa]
    exact (zero_of_info (v := .agg (List.replicate 160 (Value.bool false)).toArray) (n := 160) (by kernel_rfl)).1 w'
  have hz45 : ∀ w' : World, (zeroValue 45).run Try.prog w' = .ok (.agg (manyv oa 0).toArray) w' := by
    intro w'
    rw [← manyv_zero oa]
    exact (zero_of_info (v := .agg (List.replicate 5 (Value.int .i64 0)).toArray) (n := 5) (by kernel_rfl)).1 w'
  go_wp2_with fail
  clear hz44 hz45
  have HS0 := Lib.hid ((Blk.new w3 44 (seenv oa 0)).alloc (.cells (manyv oa 0).toArray 45))
  have hM0 := Blk.new (w3.alloc (.cells (seenv oa 0).toArray 44)) 45 (manyv oa 0)
  rw [World.size_alloc] at hM0
  have HM0 := Lib.hid hM0
  have hbW0 : Below w3.heap.size w3 ((w3.alloc (.cells (seenv oa 0).toArray 44)).alloc (.cells (manyv oa 0).toArray 45)) := ((Below.refl _ _).alloc (Nat.le_refl _) _).alloc (by rw [World.size_alloc]; omega) _
  generalize (w3.alloc (.cells (seenv oa 0).toArray 44)).alloc (.cells (manyv oa 0).toArray 45) = W0 at HS0 HM0 hbW0 ⊢
  clear hM0
  have Hoa := Lib.hid (St.ok_of Hoka.out)
  have Hob := Lib.hid (St.ok_of Hokb.out)
  go_loopw [7] (fun i wr => ∃ k : Nat, k ≤ 32 ∧ i = .int .i64 k ∧ Hid (Blk wr w3.heap.size 44 (seenv oa k)) ∧ Hid (Blk wr (w3.heap.size + 1) 45 (manyv oa k)) ∧ Below w3.heap.size w3 wr) (fun i _ => 32 - (intOf i).toNat)
  case atStart => exact ⟨0, by omega, rfl, HS0.out, HM0.out, hbW0⟩
  case round =>
    obtain ⟨k, hk, rfl, hS, hM, hbr⟩ := hrel
    have HBar := Lib.hid (HBa3.out.below hbr HBa3.out.lt)
    by_cases hlt : k < 32
    · have hlt' : (k : Int) < 32 := by omega
      go_wp2_with (refine wpList_load_map (by rfl) (.tmp 2) rfl w.heap.size rfl V oa HA8.out HBar.out ?_)
      refine (place_in V oa k _ HA8.out Hoka.out hlt).mono ?_
      rintro e w4 ⟨rfl, hb4⟩
      have hbr4 : Below w3.heap.size w3 w4 := hbr.trans (hb4.mono hbr.size)
      have HBa4 := Lib.hid (HBa3.out.below hbr4 HBa3.out.lt)
      have HS4 := Lib.hid (hS.out.below hb4 hS.out.lt)
      have HM4 := Lib.hid (hM.out.below hb4 hM.out.lt)
      obtain ⟨S, hSo, hS4⟩ := okOf_get Hoa.out (k / 4) (by rw [HA8.out]; omega)
      have hsh := shard_of hSo
      have hca : w4.cell? ⟨w.heap.size, 1 + k / 4, none⟩ = some (.int .i64 (S : Int)) := by
        rw [HBa4.out.cell, Nat.add_comm]
        show (is oa)[k / 4]? = _
        rw [List.getElem?_map, hSo]; rfl
      have hkq : (k : Int) / 4 < 8 := by omega
      have hkq0 : (0 : Int) ≤ (k : Int) / 4 := by omega
      by_cases hS0 : S = 0
      · have e1 : St.shard oa k = 0 := by rw [hsh, hS0]
        have e2 : St.sl oa k = 0 := by unfold St.sl; rw [if_pos e1]
        have e3 : St.er oa k = 4 := by unfold St.er; rw [if_pos e1]
        rw [e1, e2, e3]
        rw [hS0] at hca
        have E1 := Lib.hid e1
        clear hSo hsh hS0 e1 e2 e3 hS4
        go_wp2_with fail
        go_roundw
        case rel =>
          refine ⟨k + 1, by omega, by go_num, ?_, ?_, hbr4⟩
          · unfold Hid; rw [seenv_same oa k HA8.out Hoa.out hlt E1.out]; exact HS4.out
          · unfold Hid; rw [manyv_same oa k HA8.out Hoa.out hlt E1.out]; exact HM4.out
        case measure => simp [intOf]; omega
      · have hsl := slot_U oa k HA8.out Hoa.out hlt
        have hle := U_le oa (St.shard oa k) HA8.out Hoa.out k (by omega)
        obtain ⟨T, hT⟩ : ∃ T, T = St.slot oa k := ⟨_, rfl⟩
        have e1 : St.sl oa k = T := by unfold St.sl; rw [if_neg (by rw [hsh]; exact hS0), hT]
        have e2 : St.er oa k = 0 := by unfold St.er; rw [if_neg (by rw [hsh]; exact hS0)]
        rw [e1, e2, hsh]
        rw [hsh] at hsl hle
        have hT32 : T < 32 := by rw [hT, hsl]; omega
        have hsn : sn oa k S T = false := by unfold sn; rw [hT, hsl]; simp
        have hcs : w4.cell? ⟨w3.heap.size, S * 32 + T, none⟩ = some (.bool false) := by rw [HS4.out.cell, seenv_get oa k S T (by omega) hT32, hsn]
        have hfs := HS4.out.frozen (S * 32 + T)
        have hmn : mn oa k S = T := by unfold mn; rw [if_neg hS0, hT, hsl]
        have hcm : w4.cell? ⟨w3.heap.size + 1, S, none⟩ = some (.int .i64 (T : Int)) := by rw [HM4.out.cell, manyv_get oa k S (by omega), hmn]
        have hfm := HM4.out.frozen S
        have hSS := HS4.out.set_ (S * 32 + T) (.bool true)
        have hss : (seenv oa k).set (S * 32 + T) (.bool true) = seenv oa (k + 1) := by
          have h := seenv_set oa k HA8.out Hoa.out hlt (by rw [hsh]; exact hS0)
          rwa [hsh, ← hT] at h
        have hms : (manyv oa k).set S (.int .i64 ((T : Int) + 1)) = manyv oa (k + 1) := by
          have h := manyv_set oa k HA8.out Hoa.out hlt (by rw [hsh]; exact hS0)
          rwa [hsh, hmn] at h
        rw [hss] at hSS
        have hMM : Blk (w4.setCell ⟨w3.heap.size, S * 32 + T, none⟩ (.bool true)) (w3.heap.size + 1) 45 (manyv oa k) := HM4.out.far (by simp) _
        have hMM2 := hMM.set_ S (.int .i64 ((T : Int) + 1))
        rw [hms] at hMM2
        have hSS2 : Blk ((w4.setCell ⟨w3.heap.size, S * 32 + T, none⟩ (.bool true)).setCell ⟨w3.heap.size + 1, S, none⟩ (.int .i64 ((T : Int) + 1))) w3.heap.size 44 (seenv oa (k + 1)) := hSS.far (by simp) _
        have hbr5 : Below w3.heap.size w3 ((w4.setCell ⟨w3.heap.size, S * 32 + T, none⟩ (.bool true)).setCell ⟨w3.heap.size + 1, S, none⟩ (.int .i64 ((T : Int) + 1))) := (hbr4.setCell (p := ⟨w3.heap.size, S * 32 + T, none⟩) (Nat.le_refl _) _).setCell (p := ⟨w3.heap.size + 1, S, none⟩) (Nat.le_succ _) _
        have HSS2 := Lib.hid hSS2
        have HMM2 := Lib.hid hMM2
        have HBa5 := Lib.hid (HBa3.out.below hbr5 HBa3.out.lt)
        have Hx := Lib.hid (show (S : Int) = (St.shard oa k : Int) by rw [hsh])
        have Hy := Lib.hid (show (T : Int) = (St.slot oa k : Int) by rw [hT])
        have hS5 : (S : Int) < 5 := by omega
        have hT5 : (T : Int) < 32 := by omega
        have hS1 : 0 < (S : Int) := by omega
        have hS2 : ¬ ((S : Int) = 0) := by omega
        have hS3 : ((S : Int) == 0) = false := by simpa using hS2
        clear hSo hsh hS0 e1 e2 hsl hle hT hsn hmn hSS hss hms hMM hMM2 hSS2
        go_wp2_with (refine wpList_load_map (by rfl) (.tmp 2) rfl w.heap.size rfl V oa HA8.out HBa5.out ?_)
        refine (block_in V oa k S T _ HA8.out Hoka.out hlt hS1 Hx.out Hy.out (slot_apart oa k HA8.out Hoa.out hlt)).mono ?_
        rintro e w6 ⟨rfl, hb6⟩
        have hbr6 : Below w3.heap.size w3 w6 := hbr5.trans (hb6.mono hbr5.size)
        have HS6 := Lib.hid (HSS2.out.below hb6 HSS2.out.lt)
        have HM6 := Lib.hid (HMM2.out.below hb6 HMM2.out.lt)
        clear hcs hfs hcm hfm hca hbr5 hb6
        go_wp2_with fail
        go_roundw
        case rel => exact ⟨k + 1, by omega, by go_num, HS6.out, HM6.out, hbr6⟩
        case measure => simp [intOf]; omega
    · have hk32 : k = 32 := by omega
      have hlt' : ¬ (k : Int) < 32 := by omega
      rw [hk32] at hS hM
      clear hk32 HBar
      go_wp2_with fail
      go_loopw [13] (fun i wr => ∃ s : Nat, 1 ≤ s ∧ s ≤ 5 ∧ i = .int .i64 s ∧ Hid (Blk wr w3.heap.size 44 (seenv oa 32)) ∧ Hid (Blk wr (w3.heap.size + 1) 45 (manyv oa 32)) ∧ Below w3.heap.size w3 wr) (fun i _ => 5 - (intOf i).toNat)
      case atStart => exact ⟨1, by omega, by omega, rfl, hS.out, hM.out, hbr⟩
      case round =>
        obtain ⟨s, hs1, hs5, rfl, hS, hM, hbr⟩ := hrel
        by_cases hlt2 : s ≤ 4
        · have hlt2' : (s : Int) ≤ 4 := by omega
          obtain ⟨M, hMm⟩ : ∃ M, M = U oa 32 s := ⟨_, rfl⟩
          have hmn : mn oa 32 s = M := by unfold mn; rw [if_neg (by omega), hMm]
          have HMm := Lib.hid hMm
          have Hmn := Lib.hid hmn
          clear hMm hmn
          go_wp2_with fail
          go_loopw [14] (fun i wr => ∃ j : Nat, j ≤ 32 ∧ i = .int .i64 j ∧ Hid (Blk wr w3.heap.size 44 (seenv oa 32)) ∧ Hid (Blk wr (w3.heap.size + 1) 45 (manyv oa 32)) ∧ Below w3.heap.size w3 wr) (fun i _ => 32 - (intOf i).toNat)
          case atStart => exact ⟨0, by omega, rfl, hS, hM, hbr⟩
          case round =>
            obtain ⟨j, hj, rfl, hS2, hM2, hbr2⟩ := hrel
            by_cases hlt3 : j < 32
            · have hlt3' : (j : Int) < 32 := by omega
              have hs5' : (s : Int) < 5 := by omega
              have hcm : wr.cell? ⟨w3.heap.size + 1, s, none⟩ = some (.int .i64 (M : Int)) := by rw [hM2.out.cell, manyv_get oa 32 s (by omega), Hmn.out]
              by_cases hjm : j < M
              · have hcs : wr.cell? ⟨w3.heap.size, s * 32 + j, none⟩ = some (.bool true) := by
                  rw [hS2.out.cell, seenv_get oa 32 s j (by omega) hlt3]
                  unfold sn
                  rw [← HMm.out, decide_eq_true ⟨by omega, hjm⟩]
                have hjm' : (j : Int) < (M : Int) := by omega
                go_wp2_with fail
                go_quiet (fail)
                go_wp2_with fail
                go_roundw
                case rel => exact ⟨j + 1, by omega, by go_num, Lib.hid (hS2.out.drewN _), Lib.hid (hM2.out.drewN _), below_dn hbr2 _⟩
                case measure => simp [intOf]; omega
              · have hcs : wr.cell? ⟨w3.heap.size, s * 32 + j, none⟩ = some (.bool false) := by
                  rw [hS2.out.cell, seenv_get oa 32 s j (by omega) hlt3]
                  unfold sn
                  rw [← HMm.out, decide_eq_false (fun h => hjm h.2)]
                have hjm' : ¬ (j : Int) < (M : Int) := by omega
                go_wp2_with fail
                go_quiet (fail)
                go_wp2_with fail
                go_roundw
                case rel => exact ⟨j + 1, by omega, by go_num, Lib.hid (hS2.out.drewN _), Lib.hid (hM2.out.drewN _), below_dn hbr2 _⟩
                case measure => simp [intOf]; omega
            · have hlt3' : ¬ (j : Int) < 32 := by omega
              go_wp2_with fail
              go_roundw
              case rel => exact ⟨s + 1, by omega, by omega, by go_num, hS2, hM2, hbr2⟩
              case measure => simp [intOf]; omega
        · have hlt2' : ¬ (s : Int) ≤ 4 := by omega
          have HBar := Lib.hid (HBa3.out.below hbr HBa3.out.lt)
          go_wp2_with (refine wpList_load_map (by rfl) (.tmp 2) rfl w.heap.size rfl V oa HA8.out HBar.out ?_)
          refine (sbytes_in V oa _ HA8.out Hoka.out).mono ?_
          rintro e w7 ⟨Ab, cb, rfl, hcb, hAb, hb7⟩
          have hbr7 : Below w3.heap.size w3 w7 := hbr.trans (hb7.mono hbr.size)
          have HAb := Lib.hid hAb
          clear hb7 hAb hcb
          go_wp2_with fail
          refine (sread_in V oa Ab cb _ HAb.out HA8.out Hoka.out).mono ?_
          rintro e w8 ⟨rfl, hb8⟩
          have hbr8 : Below w3.heap.size w3 w8 := hbr7.trans (hb8.mono hbr7.size)
          have hbr9 : Below w3.heap.size w3 (w8.alloc (.cells (mp V oa).toArray 34)) := hbr8.alloc hbr8.size _
          have HBa9 := Lib.hid (HBa3.out.below hbr9 HBa3.out.lt)
          have HBb9 := Lib.hid (HBb3.out.below hbr9 HBb3.out.lt)
          have HN9 := Lib.hid (Blk.new w8 34 (mp V oa))
          clear hb8 hbr7
          go_wp2_with (first
            | (refine wpList_map_new2 rfl (.tmp 17) (.tmp 131) rfl w8 rfl V oa HA8.out rfl rfl ?_)
            | (refine wpList_load_map (by rfl) (.tmp 17) rfl w8.heap.size rfl V oa HA8.out HN9.out ?_)
            | (refine wpList_load_map (by rfl) (.tmp 2) rfl w.heap.size rfl V oa HA8.out HBa9.out ?_)
            | (refine wpList_neq_map (by rfl) (.tmp 140) (.tmp 141) _ rfl V oa HA8.out rfl rfl ?_)
            | (refine wpList_load_map (by rfl) (.tmp 3) rfl (w.heap.size + 1) rfl U' ob HB8.out HBb9.out ?_))
          refine (sdiff_in V U' oa ob _ HA8.out HB8.out Hoka.out Hokb.out).mono ?_
          rintro e wd ⟨hd, hbd⟩
          have hbrd : Below w3.heap.size w3 wd := hbr9.trans (hbd.mono hbr9.size)
          obtain ⟨v, x, rfl, hd1, hd2⟩ : ∃ v x, e = .returned (.tuple #[v, .int .i64 x]) ∧ (gone oa ob 8 = true → x = 2) ∧ (gone oa ob 8 = false → x = 0 ∧ wd.ownsRow (w8.alloc (.cells (mp V oa).toArray 34)).heap.size 36 2 v (dl oa ob 8).length (chc (dl oa ob 8))) := by
            rcases hd with ⟨hg, rfl⟩ | ⟨hg, v, rfl, ho⟩
            · exact ⟨_, _, rfl, fun _ => rfl, fun h => by rw [hg] at h; cases h⟩
            · exact ⟨_, _, rfl, fun h => by (rw [hg] at h; cases h), fun _ => ⟨rfl, ho⟩⟩
          have Hd1 := Lib.hid hd1
          have Hd2 := Lib.hid hd2
          have HBad := Lib.hid (HBa3.out.below hbrd HBa3.out.lt)
          have HBbd := Lib.hid (HBb3.out.below hbrd HBb3.out.lt)
          clear hd hbd hd1 hd2 hbr8 hbr9 HBa9 HBb9 HN9
          go_wp2_with fail
          go_loopw [21, 22, 23] (fun o nn i wr => ∃ k : Nat, k ≤ 8 ∧ i = .int .i64 k ∧ o = .int .i64 ((dl oa ob k).length : Int) ∧ nn = .bool (gone oa ob k) ∧ Below wd.heap.size wd wr) (fun _ _ i _ => 8 - (intOf i).toNat)
          case atStart => exact ⟨0, by omega, rfl, rfl, rfl, Below.refl _ _⟩
          case round =>
            obtain ⟨k, hk, rfl, rfl, rfl, hbk⟩ := hrel
            have HBak := Lib.hid (HBad.out.below hbk HBad.out.lt)
            have HBbk := Lib.hid (HBbd.out.below hbk HBbd.out.lt)
            by_cases hlt4 : k < 8
            · have hlt4' : (k : Int) < 8 := by omega
              obtain ⟨S, hS, hS4⟩ := okOf_get Hoa.out k (by rw [HA8.out]; exact hlt4)
              obtain ⟨T, hT, hT4⟩ := okOf_get Hob.out k (by rw [HB8.out]; exact hlt4)
              have hca : wr.cell? ⟨w.heap.size, 1 + k, none⟩ = some (.int .i64 (S : Int)) := by
                rw [HBak.out.cell, Nat.add_comm]
                show (is oa)[k]? = _
                rw [List.getElem?_map, hS]; rfl
              have hcb : wr.cell? ⟨w.heap.size + 1, 1 + k, none⟩ = some (.int .i64 (T : Int)) := by
                rw [HBbk.out.cell, Nat.add_comm]
                show (is ob)[k]? = _
                rw [List.getElem?_map, hT]; rfl
              have hdS : oa.getD k 0 = (S : Int) := by rw [List.getD_eq_getElem?_getD, hS]; rfl
              have hdT : ob.getD k 0 = (T : Int) := by rw [List.getD_eq_getElem?_getD, hT]; rfl
              have HdS := Lib.hid hdS
              have HdT := Lib.hid hdT
              have hl := dl_le oa ob k
              obtain ⟨n, hn⟩ : ∃ n, n = (dl oa ob k).length := ⟨_, rfl⟩
              obtain ⟨gk, hgk⟩ : ∃ gk, gk = gone oa ob k := ⟨_, rfl⟩
              rw [← hn] at hl
              rw [← hn, ← hgk]
              have Hn := Lib.hid hn
              have Hgk := Lib.hid hgk
              clear hS hT hdS hdT hn hgk
              by_cases hst : (S : Int) = (T : Int)
              · have Hst := Lib.hid hst
                have hst2 : ((S : Int) == (T : Int)) = true := by simpa using hst
                clear hst
                go_wp2_with fail
                go_quiet (fail)
                go_wp2_with fail
                go_roundw
                case rel =>
                  have e : oa.getD k 0 = ob.getD k 0 := by rw [HdS.out, HdT.out, Hst.out]
                  refine ⟨k + 1, by omega, by go_num, ?_, ?_, below_dn hbk _⟩
                  · rw [dl_succ, if_pos e, List.append_nil, ← Hn.out]
                  · rw [gone_succ, e, ← Hgk.out]; simp
                case measure => simp [intOf]; omega
              · have hne : Hid (¬ oa.getD k 0 = ob.getD k 0) := by unfold Hid; rw [HdS.out, HdT.out]; exact hst
                have hst2 : ((S : Int) == (T : Int)) = false := by simpa using hst
                cases gk with
                | true =>
                  go_wp2_with fail
                  go_quiet (fail)
                  go_wp2_with fail
                  go_roundw
                  case rel =>
                    refine ⟨k + 1, by omega, by go_num, ?_, ?_, below_dn hbk _⟩
                    · rw [dl_succ, if_neg hne.out, List.length_append, ← Hn.out]; rfl
                    · rw [gone_succ, ← Hgk.out]; simp
                  case measure => simp [intOf]; omega
                | false =>
                  by_cases hT0 : (T : Int) = 0
                  · have HT0 := Lib.hid hT0
                    have hT2 : ((T : Int) == 0) = true := by simpa using hT0
                    clear hT0
                    go_wp2_with fail
                    go_quiet (fail)
                    go_wp2_with fail
                    go_roundw
                    case rel =>
                      refine ⟨k + 1, by omega, by go_num, ?_, ?_, below_dn hbk _⟩
                      · rw [dl_succ, if_neg hne.out, List.length_append, ← Hn.out]; rfl
                      · rw [gone_succ, ← Hgk.out, decide_eq_true hne.out, HdT.out, decide_eq_true HT0.out]; simp
                    case measure => simp [intOf]; omega
                  · have HT0 := Lib.hid hT0
                    have hT2 : ((T : Int) == 0) = false := by simpa using hT0
                    go_wp2_with fail
                    go_quiet (fail)
                    go_wp2_with fail
                    go_roundw
                    case rel =>
                      refine ⟨k + 1, by omega, by go_num, ?_, ?_, below_dn hbk _⟩
                      · rw [dl_succ, if_neg hne.out, List.length_append, ← Hn.out]; rfl
                      · rw [gone_succ, ← Hgk.out, HdT.out, decide_eq_false HT0.out]; simp
                    case measure => simp [intOf]; omega
            · have hk8 : k = 8 := by omega
              subst hk8
              have hbf : Below w.heap.size w wr := hb03.trans ((hbrd.trans (hbk.mono hbrd.size)).mono hb03.size)
              have hlen := dl_le oa ob 8
              have hgood := fun hg => dl_good oa ob HB8.out Hob.out hg
              obtain ⟨n, hn⟩ : ∃ n, n = (dl oa ob 8).length := ⟨_, rfl⟩
              rw [← hn] at hlen
              rw [← hn]
              have Hn := Lib.hid hn
              have Hgood := Lib.hid hgood
              clear hn hgood hlt4
              rcases Bool.eq_false_or_eq_true (gone oa ob 8) with hg | hg
              · have hx := Hd1.out hg
                subst hx
                rw [hg]
                clear hg
                go_wp2_with fail
                refine (wakes22_any _).mono ?_
                rintro e wz ⟨rfl, hbz⟩
                have hfin := hbf.trans (hbz.mono hbf.size)
                go_wp2_with fail
                go_ret
                exact ⟨rfl, hfin⟩
              · obtain ⟨hx, ho⟩ := Hd2.out hg
                subst hx
                obtain ⟨A', c', hv, hc', -, hA'⟩ := own_at ho
                subst hv
                have hG := Hgood.out hg
                have HG := Lib.hid hG
                have HA' := Lib.hid (hA'.below hbk (Nat.le_refl _))
                have Hap := Lib.hid (ap_dl_all oa ob HA8.out HB8.out)
                rw [hg]
                rw [← Hn.out] at hc' ⊢
                clear hg ho hA' hG
                obtain ⟨v1, v2⟩ := st_parts Hoka.out
                have HV1 := Lib.hid v1
                have HV2 := Lib.hid v2
                clear v1 v2
                go_wp2_with (refine wpList_load_map (by rfl) (.tmp 2) rfl w.heap.size rfl V oa HA8.out HBak.out ?_)
                refine (sAll_in V oa A' (dl oa ob 8) n c' _ HA'.out Hn.out (by omega) HA8.out Hoka.out HG.out).mono ?_
                rintro e wx ⟨ha, hbx⟩
                rw [← Hn.out] at ha
                have hbfx := hbf.trans (hbx.mono hbf.size)
                have HBax := Lib.hid (HBak.out.below hbx HBak.out.lt)
                have HBbx := Lib.hid (HBbk.out.below hbx HBbk.out.lt)
                clear hbx hbk hbrd
                rcases ha with ⟨hmax, rfl⟩ | ⟨hmax, V', of', x', h8', rfl⟩
                · rw [Hap.out]
                  obtain ⟨Vn, hVn⟩ : ∃ Vn, Vn = V + (n : Int) := ⟨_, rfl⟩
                  rw [← hVn]
                  have hwr : IntKind.i64.wrap (V + (n : Int)) = Vn := by rw [hVn]; have := HV1.out; exact IntWalk.i64_in _ (by omega)
                  have hba : Below w.heap.size w (wx.alloc (.cells (mp Vn ob).toArray 34)) := hbfx.alloc hbfx.size _
                  have HNa := Lib.hid (Blk.new wx 34 (mp Vn ob))
                  have HBaa := Lib.hid (HBax.out.alloc (.cells (mp Vn ob).toArray 34))
                  have HBba := Lib.hid (HBbx.out.alloc (.cells (mp Vn ob).toArray 34))
                  have cN := HNa.out.cell 0
                  have cA := HBaa.out.cell 0
                  have cN' : (wx.alloc (.cells (mp Vn ob).toArray 34)).cell? ⟨wx.heap.size, 0, none⟩ = some (.int .i64 Vn) := cN
                  have cA' : (wx.alloc (.cells (mp Vn ob).toArray 34)).cell? ⟨w.heap.size, 0, none⟩ = some (.int .i64 V) := cA
                  have heq : ∀ w' : World, (Op.equalIn 10000 32 (.agg (is ob).toArray) (.agg (is ob).toArray)).run Try.prog w' = .ok true w' := fun w' => by
                    have h := eq_of8 w' ob ob HB8.out HB8.out
                    rwa [decide_eq_true rfl] at h
                  have hgd : Try.prog.eqGuardType Try.prog.depth 32 = false := by kernel_rfl
                  have HVn := Lib.hid hVn
                  clear cN cA hVn hmax hbfx
                  go_wp2_with (first
                    | (refine wpList_map_new2 rfl (.tmp 24) (.tmp 183) rfl wx rfl Vn ob HB8.out rfl rfl ?_)
                    | (refine wpList_load_of (by rfl) (.tmp 213) rfl wx.heap.size rfl Vn ob HB8.out HNa.out ?_)
                    | (refine wpList_load_of (by rfl) (.tmp 215) rfl (w.heap.size + 1) rfl U' ob HB8.out HBba.out ?_))
                  refine (wakes22_any _).mono ?_
                  rintro e wz ⟨rfl, hbz⟩
                  have hfin := hba.trans (hbz.mono hba.size)
                  go_wp2_with fail
                  go_ret
                  exact ⟨rfl, hfin⟩
                · have hba : Below w.heap.size w (wx.alloc (.cells (mp V' of').toArray 34)) := hbfx.alloc hbfx.size _
                  have HBaa := Lib.hid (HBax.out.alloc (.cells (mp V' of').toArray 34))
                  have cA : (wx.alloc (.cells (mp V' of').toArray 34)).cell? ⟨w.heap.size, 0, none⟩ = some (.int .i64 V) := HBaa.out.cell 0
                  have hVb : (1099511627768 : Int) < V := by omega
                  clear hmax hbfx
                  go_wp2_with (refine wpList_map_new2 rfl (.tmp 24) (.tmp 183) rfl wx rfl V' of' h8' rfl rfl ?_)
                  refine (wakes22_any _).mono ?_
                  rintro e wz ⟨rfl, hbz⟩
                  have hfin := hba.trans (hbz.mono hba.size)
                  go_wp2_with fail
                  go_ret
                  exact ⟨rfl, hfin⟩

theorem sback_any (V U' : Int) (oa ob : List Int) (w : World) (ha8 : oa.length = 8) (hb8 : ob.length = 8) :
    Calls Try.prog 5 #[.agg (mp V oa).toArray, .agg (mp U' ob).toArray] w fun e w' => e = .returned (.bool true) ∧ Below w.heap.size w w' := by
  rcases Bool.eq_false_or_eq_true (St.ok V oa) with h1 | h1
  · rcases Bool.eq_false_or_eq_true (St.ok U' ob) with h2 | h2
    · exact sback_main V U' oa ob w ha8 hb8 h1 h2
    · exact sback_two V U' oa ob w ha8 hb8 h1 h2
  · exact sback_one V U' oa ob w ha8 hb8 h1

end Go.Proofs.Ytbleebiffpkcmaa
