/- The walk of package stripe: Read. -/
import Derived.Test.YtbleebiffpkcmaaStripeD
namespace Go.Proofs.Ytbleebiffpkcmaa
open Go.RowKit

theorem sb_get (V : Int) (of : List Int) (k S : Nat) (h : of[k]? = some (S : Int)) (hS : S < 256) : (bs (sb V of))[6 + k]? = some (.int .u8 (S : Int)) := by
  unfold sb
  rw [bs_append, List.getElem?_append_right (by rw [bs_length, Pk.le_length]; omega), bs_length, Pk.le_length, show 6 + k - 6 = k by omega]
  unfold bs
  rw [List.getElem?_map, List.getElem?_map, h]
  simp only [Option.map_some, Int.toNat_natCast]
  rw [← u8_small S hS]

set_option maxRecDepth 100000 in
set_option maxHeartbeats 4000000 in
theorem sread_in (V : Int) (of : List Int) (A : Option Addr) (c : Nat) (w : World) (hA : At w A (bs (sb V of))) (h8 : of.length = 8) (hok : St.ok V of = true) :
    Calls Try.prog 18 #[.slice A 14 c] w fun e w' => e = .returned (.tuple #[.agg (mp V of).toArray, .int .i64 0]) ∧ Below w.heap.size w w' := by
  obtain ⟨v1, v2⟩ := st_parts hok
  have HA := Lib.hid hA
  have H8 := Lib.hid h8
  have Hok := Lib.hid hok
  have HV1 := Lib.hid v1
  have HV2 := Lib.hid v2
  obtain ⟨z8, hz8⟩ : ∃ z8 : List Int, z8 = List.replicate 8 0 := ⟨_, rfl⟩
  obtain ⟨w1, hw1⟩ : ∃ w1, w1 = Bx w 0 z8 := ⟨_, rfl⟩
  have hb01 : Below w.heap.size w w1 := by rw [hw1]; exact (Below.refl _ _).alloc (Nat.le_refl _) _
  have HB1 := Lib.hid (show Blk w1 w.heap.size 34 (mp 0 z8) by rw [hw1]; exact Blk.new w 34 (mp 0 z8))
  have Hs := Lib.hid (show (Try.prog.info? 34).map (·.size) = some (mp V of).toArray.size by rw [List.size_toArray, mp_length, h8]; kernel_rfl)
  have Hone := Lib.hid (show (mp V of).toArray.all (·.oneCell') = true by rw [List.all_toArray, List.all_eq_true]; exact mp_one _ _)
  have HA1 := Lib.hid (show At w1 A (bs (sb V of)) by rw [hw1]; exact HA.out.alloc _)
  have Hlen := Lib.hid (show 14 = (sb V of).length from (sb_length V of h8).symm)
  have Hnum := Lib.hid (show (Pk.num (((sb V of).drop 0).take 6) : Int) = V by
    unfold sb
    rw [List.drop_zero, List.take_left' (Pk.le_length _ _), Pk.num_le_fits _ _ (by simp only [Nat.reduceMul, Nat.reducePow]; omega)]
    omega)
  have Hw1 := Lib.hid hw1
  have hz81 : Hid (Blk w1 w.heap.size 34 (mp 0 z8)) := HB1
  clear hA h8 hok hw1 v1 v2
  go_enter Try.func18, Try.ntmps18
  go_wp2_with fail
  change Calls _ _ _ (w.alloc (.cells (mp 0 (List.replicate 8 0)).toArray 34)) _
  rw [← hz8]
  change Calls _ _ _ (Bx w 0 z8) _
  rw [← Hw1.out]
  refine (get_int A (sb V of) 14 c 0 6 0 6 _ rfl rfl HA1.out Hlen.out (by decide) (by decide) (by decide) (by rw [← Hlen.out]; decide)).mono ?_
  rintro e w' ⟨rfl, rfl⟩
  rw [Hnum.out]
  have c0 : w1.cell? ⟨w.heap.size, 0, none⟩ = some (.int .i64 0) := HB1.out.cell 0
  have f0 := HB1.out.frozen 0
  have hB2 : Blk (w1.setCell ⟨w.heap.size, 0, none⟩ (.int .i64 V)) w.heap.size 34 (mp V z8) := by
    have h := HB1.out.set_ 0 (.int .i64 V)
    rwa [mp_set0] at h
  have hb02 : Below w.heap.size w (w1.setCell ⟨w.heap.size, 0, none⟩ (.int .i64 V)) := hb01.setCell (p := ⟨w.heap.size, 0, none⟩) (Nat.le_refl _) _
  have HB2 := Lib.hid hB2
  clear hB2
  go_wp2_with fail
  clear c0 f0
  go_loopw [16] (fun i wr => ∃ k : Nat, k ≤ 8 ∧ i = .int .i64 k ∧ Hid (Blk wr w.heap.size 34 (mp V (of.take k ++ z8.drop k))) ∧ Below w.heap.size w wr) (fun i _ => 8 - (intOf i).toNat)
  case atStart => exact ⟨0, by omega, rfl, by simpa [Hid] using HB2.out, hb02⟩
  case round =>
    obtain ⟨k, hk, rfl, hB, hb⟩ := hrel
    by_cases hlt : k < 8
    · have hlt' : (k : Int) < 8 := by omega
      obtain ⟨S, hS, hS4⟩ := okOf_get (St.ok_of Hok.out) k (by rw [H8.out]; exact hlt)
      have hg := sb_get V of k S hS (by omega)
      have hAr := HA.out.below hb (Nat.le_refl _)
      obtain ⟨b, off, hAe, hbl, hcl⟩ := hAr.all (by rw [bs_length, ← Hlen.out]; decide)
      subst hAe
      have hcell := hcl (6 + k) _ hg
      have hlen : (of.take k ++ z8.drop k).length = 8 := by rw [List.length_append, List.length_take, List.length_drop, H8.out, hz8, List.length_replicate]; omega
      have hold : ∃ v, wr.cell? ⟨w.heap.size, 1 + k, none⟩ = some v := by
        rw [hB.out.cell, List.getElem?_eq_getElem (by rw [mp_length, hlen]; omega)]
        exact ⟨_, rfl⟩
      obtain ⟨vo, hold⟩ := hold
      have hfr := hB.out.frozen (1 + k)
      have HS := Lib.hid hS
      clear hS hg hAr hcl hlen
      go_wp2_with fail
      go_roundw
      case rel =>
        refine ⟨k + 1, by omega, by go_num, ?_, hb.setCell (p := ⟨w.heap.size, 1 + k, none⟩) (Nat.le_refl _) _⟩
        unfold Hid
        have h := hB.out.set_ (1 + k) (.int .i64 (S : Int))
        rw [Nat.add_comm 1 k, mp_set] at h
        have e1 : (of.take k ++ z8.drop k).set k (S : Int) = of.take (k + 1) ++ z8.drop (k + 1) := by
          have hl : (of.take k).length = k := by rw [List.length_take, H8.out]; omega
          rw [List.set_append_right _ _ (by omega), hl, Nat.sub_self, List.take_add_one, HS.out, List.drop_eq_getElem_cons (by rw [hz8, List.length_replicate]; exact hlt), List.set_cons_zero]
          simp
        rw [e1] at h
        rw [Nat.add_comm 1 k]
        exact h
      case measure => simp [intOf]; omega
    · have hk8 : k = 8 := by omega
      have hlt' : ¬ (k : Int) < 8 := by omega
      rw [hk8, List.take_of_length_le (by rw [H8.out]; exact Nat.le_refl _), List.drop_eq_nil_of_le (by rw [hz8, List.length_replicate]; exact Nat.le_refl _), List.append_nil] at hB
      clear hk8
      go_wp2_with (refine wpList_load_row rfl _ (.tmp 2) rfl w.heap.size rfl 34 (mp V of).toArray (0, 0) _ hB.out Try.underlying34 rfl Hs.out ?_)
      refine (check_any V of _ H8.out).mono ?_
      rintro e w5 ⟨rfl, hb5⟩
      rw [Hok.out]
      simp only [if_true]
      have HB5 := Lib.hid (hB.out.below hb5 hB.out.lt)
      have hb05 : Below w.heap.size w w5 := hb.trans (hb5.mono hb.size)
      go_wp2_with (first
        | (refine wpList_load_row rfl _ (.tmp 2) rfl w.heap.size rfl 34 (mp V of).toArray (0, 0) _ HB5.out Try.underlying34 rfl Hs.out ?_)
        | (refine wpList_store_row rfl _ (.tmp 2) (.tmp 35) rfl w.heap.size (mp V of).toArray rfl rfl 34 (mp V of).toArray HB5.out Hs.out rfl Hone.out ?_))
      refine bodyPost_ret (v := .tuple #[.agg (mp V of).toArray, .int .i64 0]) ?_ rfl ⟨rfl, below_setRow hb05 (Nat.le_refl _) _⟩
      · exact results_cell_tmp_blk (p := 2) (u := 3) rfl _ _ rfl (HB5.out.row (mp V of)) Try.underlying34 rfl Hs.out
end Go.Proofs.Ytbleebiffpkcmaa
