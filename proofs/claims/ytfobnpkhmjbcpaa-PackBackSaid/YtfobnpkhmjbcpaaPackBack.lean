/- The walk of the law PackBack. -/
import Derived.Test.YtfobnpkhmjbcpaaPackX
namespace Go.Proofs.Ytfobnpkhmjbcpaa
open Go.RowKit

set_option maxRecDepth 100000 in
set_option maxHeartbeats 1000000 in
theorem pback_great (A B C : Option Addr) (na ca nb cb nc cc : Nat) (w : World) (h : 100 < na ∨ 8000 < nb ∨ 1000 < nc) :
    Calls Try.prog 5 #[.slice A na ca, .slice B nb cb, .slice C nc cc] w fun e w' => e = .returned (.bool true) ∧ Below w.heap.size w w' := by
  by_cases h1 : 100 < na
  · clear h
    go_enter Try.func5, Try.ntmps5
    go_wp2_with fail
    refine (wakes2_any _).mono ?_
    rintro e w1 ⟨rfl, hb1⟩
    go_wp2_with fail
    go_ret
    exact ⟨rfl, hb1⟩
  · by_cases h2 : 8000 < nb
    · clear h
      go_enter Try.func5, Try.ntmps5
      go_wp2_with fail
      refine (wakes2_any _).mono ?_
      rintro e w1 ⟨rfl, hb1⟩
      go_wp2_with fail
      go_ret
      exact ⟨rfl, hb1⟩
    · have h3 : 1000 < nc := by omega
      clear h
      go_enter Try.func5, Try.ntmps5
      go_wp2_with fail
      refine (wakes2_any _).mono ?_
      rintro e w1 ⟨rfl, hb1⟩
      go_wp2_with fail
      go_ret
      exact ⟨rfl, hb1⟩

set_option maxRecDepth 100000 in
set_option maxHeartbeats 4000000 in
theorem pback_walk (A B C : Option Addr) (zs : List Int) (l V : List UInt8) (na ca cb nc cc : Nat) (w : World) (hA : At w A (zs.map (.int .i64))) (hz : zs.length = na * 2) (hna : na ≤ 100)
    (hB : At w B (bs l)) (hl : l.length ≤ 8000) (hlc : l.length ≤ cb) (hC : At w C (bs V)) (hV : V.length = nc * 8) (hnc : nc ≤ 1000) :
    Calls Try.prog 5 #[.slice A na ca, .slice B l.length cb, .slice C nc cc] w fun e w' => e = .returned (.bool true) ∧ Below w.heap.size w w' := by
  have HA : Hid (At w A (zs.map (.int .i64))) := hA
  have HB : Hid (At w B (bs l)) := hB
  have HC : Hid (At w C (bs V)) := hC
  have HV := Lib.hid hV
  have Hz := Lib.hid hz
  clear hA hB hC hV hz
  go_enter Try.func5, Try.ntmps5
  go_wp2_with fail
  go_loopw [7, 8] (fun v i wr => ∃ (k : Nat) (a : Option Addr) (La : List UInt8) (n c : Nat), k ≤ na ∧ i = .int .i64 k ∧ v = .slice a n c ∧ Hid (n = La.length) ∧ n ≤ 8000 + 6 * k ∧ n ≤ c ∧ Hid (At wr a (bs La)) ∧ Below w.heap.size w wr) (fun _ i _ => na - (intOf i).toNat)
  case atStart => exact ⟨0, B, l, l.length, cb, by omega, rfl, rfl, rfl, by omega, hlc, HB.out, Below.refl _ _⟩
  case round =>
    obtain ⟨k, a, La, n, c, hk, rfl, rfl, hn, hn6, hnc', hat, hb⟩ := hrel
    by_cases hlt : k < na
    · obtain ⟨b, off, rfl, hbl, hcell⟩ := (HA.out.below hb (Nat.le_refl _)).all (by rw [List.length_map, Hz.out]; omega)
      obtain ⟨x, hx⟩ : ∃ x, zs[k * 2]? = some x := ⟨_, List.getElem?_eq_getElem (by rw [Hz.out]; omega)⟩
      obtain ⟨y, hy⟩ : ∃ y, zs[k * 2 + 1]? = some y := ⟨_, List.getElem?_eq_getElem (by rw [Hz.out]; omega)⟩
      have hcx : wr.cell? ⟨b, off + k * 2, none⟩ = some (.int .i64 x) := hcell _ _ (by rw [List.getElem?_map, hx]; rfl)
      have hcy : wr.cell? ⟨b, off + k * 2 + 1, none⟩ = some (.int .i64 y) := by rw [Nat.add_assoc]; exact hcell _ _ (by rw [List.getElem?_map, hy]; rfl)
      have cX : ∀ w', Below wr.heap.size wr w' → w'.cell? ⟨b, off + k * 2, none⟩ = some (.int .i64 x) := fun w' h => (h.cell (p := ⟨b, off + k * 2, none⟩) hbl).trans hcx
      have cY : ∀ w', Below wr.heap.size wr w' → w'.cell? ⟨b, off + k * 2 + 1, none⟩ = some (.int .i64 y) := fun w' h => (h.cell (p := ⟨b, off + k * 2 + 1, none⟩) hbl).trans hcy
      clear hcell hx hy hcx hcy
      by_cases hf : Pk.fits x y = true
      · have Hf := Lib.hid hf
        obtain ⟨N, W, hxN, hyW, h1, h2, h3⟩ := fits_parts hf
        have HxN := Lib.hid hxN
        have HyW := Lib.hid hyW
        have H3 := Lib.hid h3
        clear hf hxN hyW h3
        go_wp2_with fail
        refine region_plan (S := fun w' => Below wr.heap.size wr w') [(true, 0), (true, 1), (true, 2), (true, 3), (true, 4), (true, 5), (true, 6), (true, 7), (true, 8), (true, 9), (true, 10), (false, 11), (true, 12), (true, 13), (true, 15), (true, 14), (true, 16)] (by kernel_rfl) (by kernel_rfl) (by kernel_rfl) rfl (Below.refl _ _).drew ?_
        simp only [planned_nil, planned_cons, nth_zero, nth_succ]
        iterate 11
          refine plan_still (v := ?_) (by rfl) (fun w' hS' => ?_) ?_
          rotate_left
          focus (go_simp <;> with_reducible rfl)
          try simp only [Act.put, List.setIfInBounds_toArray, List.set_cons_zero, List.set_cons_succ]
        refine plan_turn (by rfl) (fun K hK => ?_)
        go_simp
        refine (put_int a La n c x y N W _ HxN.out HyW.out hat.out.drew hn.out (by omega) h1 h2 H3.out).mono ?_
        rintro e w1 ⟨v1, rfl, hown1, hb1⟩
        obtain ⟨A1, c1, rfl, hmc, _, hat1⟩ := own_at hown1
        clear hown1
        have hb1 : Below wr.heap.size wr w1 := (show Below wr.heap.size wr wr.drew from (Below.refl _ _).drew).trans hb1
        obtain ⟨m, hm⟩ : ∃ m, m = La.length + W := ⟨_, rfl⟩
        rw [← hm] at hmc ⊢
        have Hm := Lib.hid hm
        have HA1 := Lib.hid hat1
        clear hm hat1
        refine hK.out (fun w' => Below w1.heap.size w1 w') _ _ (fun w' h => hb1.trans (h.mono hb1.size)) (Below.refl _ _) ?_
        clear hK K
        iterate 5
          refine plan_still (v := ?_) (by rfl) (fun w' hS' => ?_) ?_
          rotate_left
          focus (go_simp <;> with_reducible rfl)
          try simp only [Act.put, List.setIfInBounds_toArray, List.set_cons_zero, List.set_cons_succ]
        refine plan_nil ?_
        have cX1 : ∀ w', Below w1.heap.size w1 w' → w'.cell? ⟨b, off + k * 2, none⟩ = some (.int .i64 x) := fun w' h => cX w' (hb1.trans (h.mono hb1.size))
        have cY1 : ∀ w', Below w1.heap.size w1 w' → w'.cell? ⟨b, off + k * 2 + 1, none⟩ = some (.int .i64 y) := fun w' h => cY w' (hb1.trans (h.mono hb1.size))
        have hbl1 : b < w1.heap.size := by have := hb1.size; omega
        clear cX cY
        go_wp2_with fail
        refine region_plan (S := fun w' => Below w1.heap.size w1 w') [(true, 0), (true, 1), (true, 2), (true, 3), (true, 4), (true, 5), (true, 6), (true, 7), (true, 8), (true, 9), (true, 10), (true, 11), (false, 12), (true, 13)] (by kernel_rfl) (by kernel_rfl) (by kernel_rfl) rfl (Below.refl _ _).drew ?_
        simp only [planned_nil, planned_cons, nth_zero, nth_succ]
        iterate 12
          refine plan_still (v := ?_) (by rfl) (fun w' hS' => ?_) ?_
          rotate_left
          focus (go_simp <;> with_reducible rfl)
          try simp only [Act.put, List.setIfInBounds_toArray, List.set_cons_zero, List.set_cons_succ]
        refine plan_turn (by rfl) (fun K hK => ?_)
        go_simp
        refine (fits_any _ _ _).mono ?_
        rintro e w2 ⟨rfl, hw2⟩
        rw [Hf.out]
        have hb12 : Below w1.heap.size w1 w2 := by rw [← hw2]; exact (Below.refl _ _).drew
        clear hw2
        refine hK.out (fun w' => Below w2.heap.size w2 w') _ _ (fun w' h => hb12.trans (h.mono hb12.size)) (Below.refl _ _) ?_
        clear hK K
        iterate 1
          refine plan_still (v := ?_) (by rfl) (fun w' hS' => ?_) ?_
          rotate_left
          focus (go_simp <;> with_reducible rfl)
          try simp only [Act.put, List.setIfInBounds_toArray, List.set_cons_zero, List.set_cons_succ]
        refine plan_nil ?_
        have cX2 := cX1 w2 hb12
        have cY2 := cY1 w2 hb12
        have hbl2 : b < w2.heap.size := by have := hb12.size; omega
        clear cX1 cY1
        go_wp2_with fail
        have hA2 : At w2 A1 (bs (La ++ Pk.le N W)) := HA1.out.below hb12 (Nat.le_refl _)
        have HA2 := Lib.hid hA2
        clear hA2
        have hmn : m = n + W := by rw [Hm.out, hn.out]
        have Hmn := Lib.hid hmn
        clear hmn
        have hW1 : 1 ≤ W := h1
        refine (get_int A1 (La ++ Pk.le N W) m c1 n y n W _ rfl HyW.out HA2.out (by rw [List.length_append, Pk.le_length]; exact Hm.out) h1 h2 (by rw [Hmn.out]; omega) (by rw [List.length_append, Pk.le_length, hn.out]; exact Nat.le_refl _)).mono ?_
        rintro e w3 ⟨rfl, hw3⟩
        have hnum : ((Pk.num (((La ++ Pk.le N W).drop n).take W) : Nat) : Int) = x := by
          rw [hn.out, List.drop_left, List.take_of_length_le (by rw [Pk.le_length]; exact Nat.le_refl _), Pk.num_le_fits _ _ H3.out, HxN.out]
        rw [hnum]
        subst hw3
        have hmy : (m : Int) = (n : Int) + y := by rw [Hmn.out, HyW.out]; omega
        have hy0 : 0 ≤ y := by rw [HyW.out]; omega
        have hy6 : y ≤ 6 := by rw [HyW.out]; omega
        have hnc1 : n ≤ c1 := by have := Hmn.out; omega
        have hnc2 : (n : Int) ≤ (c1 : Int) := by omega
        have HAl := Lib.hid (show At w2 A1 (bs La) by
          have h := HA2.out
          rw [bs_append] at h
          exact h.left)
        have Hat2 := Lib.hid (hat.out.below (hb1.trans (hb12.mono hb1.size)) (Nat.le_refl _))
        have hn8600 : n ≤ 8600 := by omega
        clear hnum h1 h2
        go_wp2_with fail
        refine (rbytes A1 a La La _ c1 _ c _ HAl.out Hat2.out hn.out hn.out).mono ?_
        rintro e w3 ⟨rfl, hw3⟩
        subst hw3
        rw [decide_eq_true rfl]
        go_wp2_with fail
        go_roundw
        case rel =>
          refine ⟨k + 1, A1, La ++ Pk.le N W, m, c1, by omega, by go_num, rfl, ?_, by omega, ?_, HA2.out, hb.trans ((hb1.trans (hb12.mono hb1.size)).mono hb.size)⟩
          · unfold Hid; rw [List.length_append, Pk.le_length]; exact Hm.out
          · have := Hm.out; omega
        case measure => simp [intOf]; omega
      · have hf' : Pk.fits x y = false := by simpa using hf
        have Hf := Lib.hid hf'
        clear hf hf'
        go_wp2_with fail
        refine region_plan (S := fun w' => Below wr.heap.size wr w') [(true, 0), (true, 1), (true, 2), (true, 3), (true, 4), (true, 5), (true, 6), (true, 7), (true, 8), (true, 9), (true, 10), (false, 11), (true, 12), (true, 13), (true, 15), (true, 14), (true, 16)] (by kernel_rfl) (by kernel_rfl) (by kernel_rfl) rfl (Below.refl _ _).drew ?_
        simp only [planned_nil, planned_cons, nth_zero, nth_succ]
        iterate 11
          refine plan_still (v := ?_) (by rfl) (fun w' hS' => ?_) ?_
          rotate_left
          focus (go_simp <;> with_reducible rfl)
          try simp only [Act.put, List.setIfInBounds_toArray, List.set_cons_zero, List.set_cons_succ]
        refine plan_turn (by rfl) (fun K hK => ?_)
        go_simp
        refine (put_no a n c x y _ Hf.out).mono ?_
        rintro e w1 ⟨rfl, hw1⟩
        have hb1 : Below wr.heap.size wr w1 := by rw [← hw1]; exact (Below.refl _ _).drew
        clear hw1
        refine hK.out (fun w' => Below w1.heap.size w1 w') _ _ (fun w' h => hb1.trans (h.mono hb1.size)) (Below.refl _ _) ?_
        clear hK K
        iterate 5
          refine plan_still (v := ?_) (by rfl) (fun w' hS' => ?_) ?_
          rotate_left
          focus (go_simp <;> with_reducible rfl)
          try simp only [Act.put, List.setIfInBounds_toArray, List.set_cons_zero, List.set_cons_succ]
        refine plan_nil ?_
        have cX1 : ∀ w', Below w1.heap.size w1 w' → w'.cell? ⟨b, off + k * 2, none⟩ = some (.int .i64 x) := fun w' h => cX w' (hb1.trans (h.mono hb1.size))
        have cY1 : ∀ w', Below w1.heap.size w1 w' → w'.cell? ⟨b, off + k * 2 + 1, none⟩ = some (.int .i64 y) := fun w' h => cY w' (hb1.trans (h.mono hb1.size))
        have hbl1 : b < w1.heap.size := by have := hb1.size; omega
        clear cX cY
        go_wp2_with fail
        refine region_plan (S := fun w' => Below w1.heap.size w1 w') [(true, 0), (true, 1), (true, 2), (true, 3), (true, 4), (true, 5), (true, 6), (true, 7), (true, 8), (true, 9), (true, 10), (true, 11), (false, 12), (true, 13)] (by kernel_rfl) (by kernel_rfl) (by kernel_rfl) rfl (Below.refl _ _).drew ?_
        simp only [planned_nil, planned_cons, nth_zero, nth_succ]
        iterate 12
          refine plan_still (v := ?_) (by rfl) (fun w' hS' => ?_) ?_
          rotate_left
          focus (go_simp <;> with_reducible rfl)
          try simp only [Act.put, List.setIfInBounds_toArray, List.set_cons_zero, List.set_cons_succ]
        refine plan_turn (by rfl) (fun K hK => ?_)
        go_simp
        refine (fits_any _ _ _).mono ?_
        rintro e w2 ⟨rfl, hw2⟩
        rw [Hf.out]
        have hb12 : Below w1.heap.size w1 w2 := by rw [← hw2]; exact (Below.refl _ _).drew
        clear hw2
        refine hK.out (fun w' => Below w2.heap.size w2 w') _ _ (fun w' h => hb12.trans (h.mono hb12.size)) (Below.refl _ _) ?_
        clear hK K
        iterate 1
          refine plan_still (v := ?_) (by rfl) (fun w' hS' => ?_) ?_
          rotate_left
          focus (go_simp <;> with_reducible rfl)
          try simp only [Act.put, List.setIfInBounds_toArray, List.set_cons_zero, List.set_cons_succ]
        refine plan_nil ?_
        clear cX1 cY1
        go_wp2_with fail
        go_roundw
        case rel =>
          exact ⟨k + 1, a, La, n, c, by omega, by go_num, rfl, hn.out, by omega, hnc', hat.out.below (hb1.trans (hb12.mono hb1.size)) (Nat.le_refl _), hb.trans ((hb1.trans (hb12.mono hb1.size)).mono hb.size)⟩
        case measure => simp [intOf]; omega
    · clear hn hn6 hnc' hat
      go_wp2_with fail
      refine (vals_any C nc cc V _ (HC.out.below hb (Nat.le_refl _)) HV.out (by omega)).mono ?_
      rintro e w1 ⟨v1, rfl, hown1, hb1⟩
      obtain ⟨A1, c1, rfl, hc1, _, hat1⟩ := own_at hown1
      clear hown1
      go_wp2_with fail
      refine (readvals_all A1 V _ c1 _ hat1 HV.out.symm hc1 (by omega)).mono ?_
      rintro e w2 ⟨v2, rfl, hown2, hb2⟩
      have e1 : Pk.rvE V = 0 := by unfold Pk.rvE; rw [if_pos (by rw [HV.out]; omega)]
      have e2 : Pk.rvL V = V := by unfold Pk.rvL; rw [if_pos (by rw [HV.out]; omega)]
      rw [e2] at hown2
      rw [e1]
      obtain ⟨A2, c2, rfl, hc2, _, hat2⟩ := own_at hown2
      have HA2 := Lib.hid hat2
      have hb02 : Below w.heap.size w w2 := hb.trans ((hb1.trans (hb2.mono hb1.size)).mono hb.size)
      have e3 : V.length / 8 = nc := by rw [HV.out]; omega
      rw [e3]
      clear e1 e2 e3 hown2 hat1 hat2
      go_wp2_with fail
      refine (values_any A2 C V V _ c2 _ cc _ HA2.out (HC.out.below hb02 (Nat.le_refl _)) HV.out HV.out (by omega)).mono ?_
      rintro e w3 ⟨rfl, hb3⟩
      rw [decide_eq_true rfl]
      have hb03 : Below w.heap.size w w3 := hb02.trans (hb3.mono hb02.size)
      go_wp2_with fail
      refine (readvals_all B l _ cb _ (HB.out.below hb03 (Nat.le_refl _)) rfl hlc hl).mono ?_
      rintro e w4 ⟨v4, rfl, hown4, hb4⟩
      have hb04 : Below w.heap.size w w4 := hb03.trans (hb4.mono hb03.size)
      by_cases h8 : l.length % 8 = 0
      · have e1 : Pk.rvE l = 0 := by unfold Pk.rvE; rw [if_pos h8]
        have e2 : Pk.rvL l = l := by unfold Pk.rvL; rw [if_pos h8]
        rw [e2] at hown4
        rw [e1]
        obtain ⟨q, hq⟩ : ∃ q, q = l.length / 8 := ⟨_, rfl⟩
        have hq2 : l.length = q * 8 := by omega
        rw [← hq] at hown4
        obtain ⟨A4, c4, rfl, hc4, _, hat4⟩ := own_at hown4
        have HA4 := Lib.hid hat4
        have Hq := Lib.hid hq2
        have hq3 : q ≤ 2000 := by omega
        clear e1 e2 h8 hq hq2 hat4 hown4
        go_wp2_with fail
        refine (vals_any A4 q c4 l _ HA4.out Hq.out hq3).mono ?_
        rintro e w5 ⟨v5, rfl, hown5, hb5⟩
        obtain ⟨A5, c5, rfl, hc5, _, hat5⟩ := own_at hown5
        have hb05 : Below w.heap.size w w5 := hb04.trans (hb5.mono hb04.size)
        have HA5 := Lib.hid hat5
        clear hat5 hown5
        go_wp2_with fail
        refine (rbytes A5 B l l _ c5 _ cb _ HA5.out (HB.out.below hb05 (Nat.le_refl _)) Hq.out.symm rfl).mono ?_
        rintro e w6 ⟨rfl, hw6⟩
        subst hw6
        rw [decide_eq_true rfl]
        go_wp2_with fail
        refine (wakes2_any _).mono ?_
        rintro e w7 ⟨rfl, hb7⟩
        go_wp2_with fail
        go_ret
        exact ⟨rfl, hb05.trans (hb7.mono hb05.size)⟩
      · have e1 : Pk.rvE l = 40 := by unfold Pk.rvE; rw [if_neg h8]
        rw [e1]
        have h9 : ¬ ((l.length : Int) % 8 = 0) := by omega
        clear e1 h8
        go_wp2_with fail
        refine (wakes2_any _).mono ?_
        rintro e w7 ⟨rfl, hb7⟩
        go_wp2_with fail
        go_ret
        exact ⟨rfl, hb04.trans (hb7.mono hb04.size)⟩
end Go.Proofs.Ytfobnpkhmjbcpaa
