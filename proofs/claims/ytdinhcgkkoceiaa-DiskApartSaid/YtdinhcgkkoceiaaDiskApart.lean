/- The walk of the law DiskApart. -/
import Derived.Test.YtdinhcgkkoceiaaDiskS
import Derived.Test.YtdinhcgkkoceiaaDiskY
import Derived.Test.YtdinhcgkkoceiaaRegionG
namespace Go.Proofs.Ytdinhcgkkoceiaa
open Go.RowKit

theorem at_cell {w : World} {b off j : Nat} {xs : List Value} {u : Value} (h : At w (some ⟨b, off, none⟩) xs) (hu : xs[j]? = some u) : w.cell? ⟨b, off + j, none⟩ = some u := by
  have h0 : 0 < xs.length := by
    cases xs with
    | nil => cases hu
    | cons a t => simp
  obtain ⟨b', o', e, -, hc⟩ := h.all h0
  cases e
  exact hc j u hu

set_option maxRecDepth 100000 in
set_option maxHeartbeats 2000000 in
theorem dwrite_both (p : Nat) (F : Nat → Prop) (q : Nat) (S : Nat → List UInt8) (C : Nat → List (List UInt8)) (m : Nat) (nn : Int) (A : Option Addr) (l : List UInt8) (c j : Nat) (w : World)
    (hD : Dk w p F q S C m false) (hA : At w A (bs l)) (hq : q ≤ j) (hm : m ≤ j) (hC : ∀ i, (C i).length ≤ j) (hj : j < 1000) :
    Calls Try.prog 12 #[.pointer (some ⟨p, 0, none⟩), .int .i64 nn, .slice A l.length c] w fun e w' => ∃ (x : Int) (F' : Nat → Prop) (C' : Nat → List (List UInt8)) (m' : Nat), e = .returned (.int .i64 x) ∧ Dk w' p F' (q + 1) S C' m' false ∧ m' ≤ j + 1 ∧ (∀ i, (C' i).length ≤ j + 1) ∧ Chg F w w' ∧ (∀ g, F' g → F g ∨ w.heap.size ≤ g) := by
  by_cases hok : 0 ≤ nn ∧ nn < 34 ∧ l.length ≤ 64
  · obtain ⟨h1, h2, h3⟩ := hok
    obtain ⟨i, rfl⟩ : ∃ i : Nat, nn = (i : Int) := ⟨nn.toNat, by omega⟩
    refine (dwrite_ok p F q S C m i (by omega) A l l.length c w hD hA rfl h3 (by omega) (by omega) (Nat.lt_of_le_of_lt (hC i) (by omega))).mono ?_
    rintro e w3 ⟨F3, rfl, hd3, hc3, hF3⟩
    exact ⟨0, F3, _, _, rfl, hd3, by omega, cput_len C i (pad l) j hC, hc3, hF3⟩
  · obtain ⟨ms, mc, hB⟩ := hD.blk
    refine (dwrite_no p ms mc m false nn A l.length c _ hB (by omega)).mono ?_
    rintro e w' ⟨x, rfl, hx, rfl⟩
    exact ⟨x, F, C, m, rfl, hD.mono (Nat.le_succ _), by omega, fun i => Nat.le_succ_of_le (hC i), Chg.refl _ _, fun g hg => .inl hg⟩

set_option maxRecDepth 100000 in
set_option maxHeartbeats 8000000 in
theorem dapart_walk (A A2 : Option Addr) (L L2 : List AV) (n c n2 c2 : Nat) (w : World) (hA : At w A (acells L)) (hn : n = L.length) (hR : AReads w L) (hA2 : At w A2 (acells L2)) (hn2 : n2 = L2.length) (hR2 : AReads w L2) :
    Calls Try.prog 4 #[.slice A n c, .slice A2 n2 c2] w fun e w' => e = .returned (.bool true) ∧ Below w.heap.size w w' := by
  have HA := Lib.hid hA
  have Hn := Lib.hid hn
  have HR := Lib.hid hR
  have HA2 := Lib.hid hA2
  have Hn2 := Lib.hid hn2
  have HR2 := Lib.hid hR2
  clear hA hn hR hA2 hn2 hR2
  go_enter Try.func4, Try.ntmps4
  go_wp2_with fail
  refine (great_any A L n c _ HA.out Hn.out).mono ?_
  rintro e w' ⟨⟨gr, rfl, hgr⟩, rfl⟩
  cases gr with
  | true =>
    go_wp2_with fail
    refine (wakes3_any _).mono ?_
    rintro e w2 ⟨rfl, hb2⟩
    go_wp2_with fail
    go_ret
    exact ⟨rfl, hb2⟩
  | false =>
  have HSm := Lib.hid (hgr rfl)
  clear hgr
  go_wp2_with fail
  refine (great_any A2 L2 n2 c2 _ HA2.out Hn2.out).mono ?_
  rintro e w' ⟨⟨gr, rfl, hgr⟩, rfl⟩
  cases gr with
  | true =>
    go_wp2_with fail
    refine (wakes3_any _).mono ?_
    rintro e w2 ⟨rfl, hb2⟩
    go_wp2_with fail
    go_ret
    exact ⟨rfl, hb2⟩
  | false =>
  have HSm2 := Lib.hid (hgr rfl)
  clear hgr
  have hn200 : n ≤ 200 := by rw [Hn.out]; exact HSm.out.1
  have hn2200 : n2 ≤ 200 := by rw [Hn2.out]; exact HSm2.out.1
  go_wp2_with fail
  refine (dnew_any _).mono ?_
  rintro e w1 ⟨p, F1, rfl, hd1, hF1, hb1⟩
  have Hd1 := Lib.hid hd1
  have HF1 := Lib.hid hF1
  clear hd1 hF1
  generalize (fun _ : Nat => zsec) = S0 at Hd1
  go_wp2_with fail
  go_loopw [6, 23] (fun _ i wr => ∃ (j m q : Nat) (F : Nat → Prop) (S : Nat → List UInt8) (C : Nat → List (List UInt8)), j ≤ n ∧ i = .int .i64 j ∧ m ≤ j ∧ q ≤ j ∧
      Hid (Dk wr p F q S C m false) ∧ Hid (∀ g, F g → w.heap.size ≤ g) ∧ Hid (∀ i, (C i).length ≤ j) ∧ Below w.heap.size w wr) (fun _ i _ => n - (intOf i).toNat)
  case atStart => exact ⟨0, 0, 0, F1, S0, fun _ => [], by omega, rfl, by omega, by omega, Hd1.out, HF1.out, fun _ => by simp, hb1⟩
  case round =>
    obtain ⟨j, m, q, F, S, C, hj, rfl, hm, hq, hD, hF, hC, hb⟩ := hrel
    by_cases hlt : (j : Int) < (n : Int)
    · obtain ⟨x, hx⟩ : ∃ x, L[j]? = some x := ⟨_, List.getElem?_eq_getElem (by have := Hn.out; omega)⟩
      obtain ⟨b, off, rfl, -, -⟩ := HA.out.all (by rw [acells_length]; have := Hn.out; omega)
      have hX := HA.out.act hx
      have hRx := HR.out x (List.mem_of_getElem? hx)
      obtain ⟨d, nn, B, l, cb, P, lp, cp⟩ := x
      have HX := Lib.hid hX
      have HB := Lib.hid hRx.1
      have j0 : (0 : Int) ≤ (j : Int) := by omega
      have j1 : (j : Int) < 200 := by omega
      have Hj := Lib.hid (show j < 1000 by omega)
      clear hX hRx hx
      have y0 : ∀ w', Below w.heap.size w w' → w'.cell? ⟨b, off + j * 4, none⟩ = some (.int .i64 d) := fun w' h => at_cell (j := 0) (HX.out.below h (Nat.le_refl _)) rfl
      have y1 : ∀ w', Below w.heap.size w w' → w'.cell? ⟨b, off + j * 4 + 1, none⟩ = some (.int .i64 nn) := fun w' h => at_cell (HX.out.below h (Nat.le_refl _)) rfl
      have y2 : ∀ w', Below w.heap.size w w' → w'.cell? ⟨b, off + j * 4 + 2, none⟩ = some (.slice B l.length cb) := fun w' h => at_cell (HX.out.below h (Nat.le_refl _)) rfl
      have hrd : Below w.heap.size w wr.drew := hb.drew
      go_wp2_with fail
      refine region_plan (S := fun w' => Below w.heap.size w w') [(true, 0), (true, 1), (true, 2), (true, 3), (true, 4), (true, 5), (true, 6), (true, 7), (true, 8), (true, 9), (true, 10), (false, 11)] (by kernel_rfl) (by kernel_rfl) (by kernel_rfl) rfl hrd ?_
      simp only [planned_nil, planned_cons, nth_zero, nth_succ]
      iterate 11
        refine plan_still2 (v := ?_) (a' := ?_) (by rfl) (fun w' hS' => ?_) ?_ ?_
        rotate_left 2
        (focus (have e1 := y1 w' hS'; have e2 := y2 w' hS'; go_simp <;> with_reducible rfl))
        (focus (simp only [Act.put, List.setIfInBounds_toArray, List.set_cons_zero, List.set_cons_succ] <;> rfl))
      refine plan_do (by rfl) (fun K' hK' => ?_)
      go_simp
      refine (dwrite_both p F q S C m nn B l cb j _ (hD.out.keep ((Below.refl _ _).drew)) (HB.out.below hrd (Nat.le_refl _)) hq hm hC.out Hj.out).mono ?_
      rintro e w3 ⟨x, F3, C3, m3, rfl, hd3, hm3, hC3, hc3, hF3⟩
      have hb3 : Below w.heap.size w w3 := hrd.trans (hc3.below hF.out hrd.size)
      refine hK'.out _ _ hb3 ?_
      clear hK' K'
      refine plan_nil ?_
      have HF3 := Lib.hid (show ∀ g, F3 g → w.heap.size ≤ g from fun g hg => (hF3 g hg).elim (hF.out g) (fun h => Nat.le_trans hrd.size h))
      have Hd3 := Lib.hid hd3
      have HC3 := Lib.hid hC3
      have c0 : w3.cell? ⟨b, off + j * 4, none⟩ = some (.int .i64 d) := y0 _ hb3
      clear hd3 hC3 hc3 hF3 y0 y1 y2 hrd
      by_cases hd : d = 2
      · subst hd
        go_wp2_with fail
        refine (dflush_ok p F3 _ S C3 m3 _ Hd3.out (by omega) (fun i _ => Nat.le_trans (HC3.out i) (by omega))).mono ?_
        rintro e w4 ⟨rfl, hd4, hc4⟩
        have hb4 : Below w.heap.size w w4 := hb3.trans (hc4.below HF3.out hb3.size)
        have Hd4 := Lib.hid hd4
        clear hd4 hc4 hb3
        go_wp2_with fail
        exact ⟨⟨j + 1, 0, q + 1, F3, _, _, by omega, by go_num, by omega, by omega, Hd4.out, HF3.out, fun _ => by simp, hb4⟩, by simp [intOf]; omega⟩
      · have hd2 : (d == 2) = false := by simpa using hd
        go_wp2_with fail
        exact ⟨⟨j + 1, m3, q + 1, F3, S, C3, by omega, by go_num, by omega, by omega, Hd3.out, HF3.out, HC3.out, hb3⟩, by simp [intOf]; omega⟩
    · have Hm1 := Lib.hid hm
      have Hq1 := Lib.hid hq
      have Hj1 := Lib.hid hj
      go_wp2_with fail
      clear hlt hm hq hj
      refine (ddur_any p F q _ _ _ _ _ hD.out).mono ?_
      rintro e w2 ⟨v, rfl, hown2, hb2⟩
      obtain ⟨A3, c3, rfl, -, -, hA3⟩ := own_at hown2
      have HA3 := Lib.hid hA3
      have Hd2 := Lib.hid (hD.out.keep hb2)
      have hb02 : Below w.heap.size w w2 := hb.trans (hb2.mono hb.size)
      clear hown2 hA3 hb2
      obtain ⟨ms, mc, hB2⟩ := Hd2.out.blk
      have HB2 := Lib.hid hB2
      clear hB2
      go_wp2_with fail
      refine (dwrites_any p ms mc m false _ HB2.out).mono ?_
      rintro e w' ⟨rfl, rfl⟩
      go_wp2_with fail
      refine (dcopy_ok p F q S C m false _ Hd2.out (fun i _ => Nat.le_trans (hC.out i) (by have := Hj1.out; omega)) (by have := Hj1.out; have := Hq1.out; omega)).mono ?_
      rintro e w3 ⟨p4, F4, rfl, hd4, hF4, hb3⟩
      have Hd3 := Lib.hid (Hd2.out.keep hb3)
      have Hd4 := Lib.hid hd4
      have HF4 := Lib.hid hF4
      have HA4 := Lib.hid (HA3.out.below hb3 (Nat.le_refl _))
      have hb03 : Below w.heap.size w w3 := hb02.trans (hb3.mono hb02.size)
      have Hw2 := Lib.hid hb02.size
      have Hb3 := Lib.hid hb3
      clear hd4 hF4 hb3
      go_wp2_with fail
      have Hq4 := Lib.hid (show q ≤ 200 ∧ m ≤ 200 ∧ ∀ i, (C i).length ≤ 200 from ⟨by have := Hj1.out; have := Hq1.out; omega, by have := Hj1.out; have := Hm1.out; omega, fun i => Nat.le_trans (hC.out i) (by have := Hj1.out; omega)⟩)
      go_loopw [10, 57] (fun _ i W => ∃ (k m4 q4 : Nat) (F5 : Nat → Prop) (S4 : Nat → List UInt8) (C4 : Nat → List (List UInt8)), k ≤ n2 ∧ i = .int .i64 k ∧ Hid (m4 ≤ 200 + k ∧ q4 ≤ 200 + k ∧ (0 < k → m4 = 0)) ∧
        Hid (Dk W p4 F5 q4 S4 C4 m4 false) ∧ Hid (∀ g, F5 g → w2.heap.size ≤ g) ∧ Hid (∀ i, (C4 i).length ≤ 200 + k) ∧ Hid (Below w2.heap.size w2 W)) (fun _ i _ => n2 - (intOf i).toNat)
      case atStart => exact ⟨0, m, q, F4, S, C, by omega, rfl, ⟨by have := Hq4.out; omega, by have := Hq4.out; omega, by omega⟩, Hd4.out, HF4.out, fun i => Nat.le_trans (Hq4.out.2.2 i) (by omega), Hb3.out⟩
      case round =>
        obtain ⟨k, m4, q4, F5, S4, C4, hk, rfl, hmq, hD5, hF5, hC5, hb5⟩ := hrel
        have hb05 : Below w.heap.size w wr := hb02.trans (hb5.out.mono Hw2.out)
        by_cases hlt : (k : Int) < (n2 : Int)
        · obtain ⟨x, hx⟩ : ∃ x, L2[k]? = some x := ⟨_, List.getElem?_eq_getElem (by have := Hn2.out; omega)⟩
          obtain ⟨b, off, rfl, -, -⟩ := HA2.out.all (by rw [acells_length]; have := Hn2.out; omega)
          have hX := HA2.out.act hx
          have hRx := HR2.out x (List.mem_of_getElem? hx)
          obtain ⟨d, nn, B, l, cb, P, lp, cp⟩ := x
          have HX := Lib.hid hX
          have HB := Lib.hid hRx.1
          have j0 : (0 : Int) ≤ (k : Int) := by omega
          have j1 : (k : Int) < 200 := by omega
          have Hj := Lib.hid (show 200 + k < 1000 by omega)
          clear hX hRx hx
          have y1 : ∀ w', Below w.heap.size w w' → w'.cell? ⟨b, off + k * 4 + 1, none⟩ = some (.int .i64 nn) := fun w' h => at_cell (HX.out.below h (Nat.le_refl _)) rfl
          have y2 : ∀ w', Below w.heap.size w w' → w'.cell? ⟨b, off + k * 4 + 2, none⟩ = some (.slice B l.length cb) := fun w' h => at_cell (HX.out.below h (Nat.le_refl _)) rfl
          have hrd : Below w.heap.size w wr.drew := hb05.drew
          go_wp2_with fail
          refine region_plan (S := fun w' => Below w.heap.size w w') [(true, 0), (true, 1), (true, 2), (true, 3), (true, 4), (true, 5), (true, 6), (true, 7), (true, 8), (true, 9), (true, 10), (false, 11)] (by kernel_rfl) (by kernel_rfl) (by kernel_rfl) rfl hrd ?_
          simp only [planned_nil, planned_cons, nth_zero, nth_succ]
          iterate 11
            refine plan_still2 (v := ?_) (a' := ?_) (by rfl) (fun w' hS' => ?_) ?_ ?_
            rotate_left 2
            (focus (have e1 := y1 w' hS'; have e2 := y2 w' hS'; go_simp <;> with_reducible rfl))
            (focus (simp only [Act.put, List.setIfInBounds_toArray, List.set_cons_zero, List.set_cons_succ] <;> rfl))
          refine plan_do (by rfl) (fun K' hK' => ?_)
          go_simp
          refine (dwrite_both p4 F5 q4 S4 C4 m4 nn B l cb (200 + k) _ (hD5.out.keep ((Below.refl _ _).drew)) (HB.out.below hrd (Nat.le_refl _)) hmq.out.2.1 hmq.out.1 hC5.out Hj.out).mono ?_
          rintro e W3 ⟨x, F3, C3, m3, rfl, hd3, hm3, hC3, hc3, hF3⟩
          have hb35 : Below w2.heap.size w2 W3 := (hb5.out.drew).trans (hc3.below hF5.out hb5.out.size)
          have hb3 : Below w.heap.size w W3 := hb02.trans (hb35.mono Hw2.out)
          refine hK'.out _ _ hb3 ?_
          clear hK' K'
          refine plan_nil ?_
          have HF3 := Lib.hid (show ∀ g, F3 g → w2.heap.size ≤ g from fun g hg => (hF3 g hg).elim (hF5.out g) (fun h => Nat.le_trans hb5.out.size h))
          have Hd3 := Lib.hid hd3
          have HC3 := Lib.hid hC3
          have Hb35 := Lib.hid hb35
          have Hmq := Lib.hid (show m3 < 1000 ∧ q4 + 1 ≤ 200 + (k + 1) from by have := hmq.out; have := Hj.out; omega)
          clear hd3 hC3 hc3 hF3 y1 y2 hrd hb35 hm3
          go_wp2_with fail
          refine (dflush_ok p4 F3 _ S4 C3 m3 _ Hd3.out (by have := Hmq.out; omega) (fun i _ => Nat.le_trans (HC3.out i) (by omega))).mono ?_
          rintro e W4 ⟨rfl, hd4, hc4⟩
          have Hb45 := Lib.hid (Hb35.out.trans (hc4.below HF3.out Hb35.out.size))
          have Hd4' := Lib.hid hd4
          clear hd4 hc4
          go_wp2_with fail
          exact ⟨⟨k + 1, 0, q4 + 1, F3, _, _, by omega, by go_num, ⟨by omega, Hmq.out.2, fun _ => rfl⟩, Hd4'.out, HF3.out, fun _ => by simp, Hb45.out⟩, by simp [intOf]; omega⟩
        · have hkn : k = n2 := by omega
          subst hkn
          go_wp2_with fail
          have Hd5 := Lib.hid (Hd2.out.keep hb5.out)
          have HA5 := Lib.hid (HA3.out.below hb5.out (Nat.le_refl _))
          obtain ⟨ms, mc, hB5⟩ := Hd5.out.blk
          obtain ⟨ms4, mc4, hB54⟩ := hD5.out.blk
          have HB5 := Lib.hid hB5
          have HB54 := Lib.hid hB54
          have k1 : ∀ w', Below wr.heap.size wr w' → (convert 27 9 (.slice A3 (durB S 34).length c3)).run Try.prog w' = .ok (.string (str (durB S 34))) w' := fun w' h => convStr w' _ _ _ _ (HA5.out.below h (Nat.le_refl _)) rfl
          have hrd : Below wr.heap.size wr wr.drew := (Below.refl _ _).drew
          clear hB5 hB54
          by_cases hz : k = 0
          · subst hz
            clear hlt
            refine region_planx (S := fun w' => Below wr.heap.size wr w') [(true, 0), (true, 3), (true, 4), (false, 1), (true, 2), (true, 5), (true, 6), (true, 7), (true, 9), (false, 8), (true, 10), (true, 11), (true, 12), (true, 13), (true, 14), (true, 15), (true, 16), (true, 17), (false, 18), (true, 19), (true, 20), (true, 21), (true, 22), (false, 23), (true, 24), (true, 25)] (by kernel_rfl) (by kernel_rfl) (by kernel_rfl) rfl hrd ?_
            simp only [planned_nil, planned_cons, nth_zero, nth_succ]
            iterate 3
              refine xplan_still2 (v := ?_) (a' := ?_) (by rfl) (fun w' hS' => ?_) ?_ ?_
              rotate_left 2
              (focus (go_simp <;> with_reducible rfl))
              (focus (simp only [Act.put, List.setIfInBounds_toArray, List.set_cons_zero, List.set_cons_succ] <;> rfl))
            refine xplan_turn (by rfl) (fun K' hK' => ?_)
            go_simp
            refine (ddur_any p F _ _ _ _ _ _ (Hd5.out.keep hrd)).mono ?_
            rintro e w5 ⟨v, rfl, hown5, hb55⟩
            obtain ⟨A6, c6, rfl, -, -, hA6⟩ := own_at hown5
            have hb45 : Below wr.heap.size wr w5 := hrd.trans (hb55.mono hrd.size)
            refine hK'.out (fun w' => Below w5.heap.size w5 w') _ _ (fun w' h => hb45.trans (h.mono hb45.size)) (Below.refl _ _) ?_
            clear hK' K' k1
            have HB6 := Lib.hid (HB5.out.below hb45 HB5.out.lt)
            have HB64 := Lib.hid (HB54.out.below hb45 HB54.out.lt)
            have hcv5 : ∀ w', Below w5.heap.size w5 w' → (convert 27 9 (.slice A6 (durB S 34).length c6)).run Try.prog w' = .ok (.string (str (durB S 34))) w' := fun w' h => convStr w' _ _ _ _ (hA6.below h (Nat.le_refl _)) rfl
            have hb06 : Below w.heap.size w w5 := hb05.trans (hb45.mono hb05.size)
            clear hown5 hb55 hb45 hrd
            iterate 5
              refine xplan_still2 (v := ?_) (a' := ?_) (by rfl) (fun w' hS' => ?_) ?_ ?_
              rotate_left 2
              (focus (go_simp <;> with_reducible rfl))
              (focus (simp only [Act.put, List.setIfInBounds_toArray, List.set_cons_zero, List.set_cons_succ] <;> rfl))
            refine xplan_do (by rfl) (fun K' hK' => ?_)
            go_simp
            refine (dwrites_any p ms mc m false _ HB6.out).mono ?_
            rintro e w' ⟨rfl, rfl⟩
            refine hK'.out _ _ (Below.refl _ _) ?_
            clear hK' K'
            iterate 7
              refine xplan_still2 (v := ?_) (a' := ?_) (by rfl) (fun w' hS' => ?_) ?_ ?_
              rotate_left 2
              (focus (go_simp <;> with_reducible rfl))
              (focus (simp only [Act.put, List.setIfInBounds_toArray, List.set_cons_zero, List.set_cons_succ] <;> rfl))
            refine xplan_skip2 (a' := ?_) (by rfl) ?_ ?_
            rotate_left 1
            (focus (simp only [Act.put, List.setIfInBounds_toArray, List.set_cons_zero, List.set_cons_succ] <;> rfl))
            refine xplan_skip3 (a' := ?_) (by rfl) ?_ ?_
            rotate_left 1
            (focus (simp only [Act.put, List.setIfInBounds_toArray, List.set_cons_zero, List.set_cons_succ] <;> rfl))
            refine xplan_skip2 (a' := ?_) (by rfl) ?_ ?_
            rotate_left 1
            (focus (simp only [Act.put, List.setIfInBounds_toArray, List.set_cons_zero, List.set_cons_succ] <;> rfl))
            iterate 3
              refine xplan_still2 (v := ?_) (a' := ?_) (by rfl) (fun w' hS' => ?_) ?_ ?_
              rotate_left 2
              (focus (go_simp <;> with_reducible rfl))
              (focus (simp only [Act.put, List.setIfInBounds_toArray, List.set_cons_zero, List.set_cons_succ] <;> rfl))
            refine xplan_do (by rfl) (fun K' hK' => ?_)
            go_simp
            refine (wakes3_any _).mono ?_
            rintro e w7 ⟨rfl, hb7⟩
            refine hK'.out _ _ hb7 ?_
            clear hK' K'
            iterate 2
              refine xplan_still2 (v := ?_) (a' := ?_) (by rfl) (fun w' hS' => ?_) ?_ ?_
              rotate_left 2
              (focus (go_simp <;> with_reducible rfl))
              (focus (simp only [Act.put, List.setIfInBounds_toArray, List.set_cons_zero, List.set_cons_succ] <;> rfl))
            refine xplan_nil ?_
            go_wp2_with fail
            go_ret
            exact ⟨rfl, hb06.trans (hb7.mono hb06.size)⟩
          · have hz2 : ((k : Int) == 0) = false := by simp; omega
            have hm4 := hmq.out.2.2 (by omega)
            subst hm4
            clear hlt hz
            refine region_plan (S := fun w' => Below wr.heap.size wr w') [(true, 0), (true, 3), (true, 4), (false, 1), (true, 2), (true, 5), (true, 6), (true, 7), (true, 9), (false, 8), (true, 10), (true, 11), (true, 12), (true, 13), (true, 14), (true, 15), (true, 16), (true, 17), (false, 18), (true, 19), (true, 20), (true, 21), (true, 22), (false, 23), (true, 24), (true, 25)] (by kernel_rfl) (by kernel_rfl) (by kernel_rfl) rfl hrd ?_
            simp only [planned_nil, planned_cons, nth_zero, nth_succ]
            iterate 3
              refine plan_still2 (v := ?_) (a' := ?_) (by rfl) (fun w' hS' => ?_) ?_ ?_
              rotate_left 2
              (focus (go_simp <;> with_reducible rfl))
              (focus (simp only [Act.put, List.setIfInBounds_toArray, List.set_cons_zero, List.set_cons_succ] <;> rfl))
            refine plan_turn (by rfl) (fun K' hK' => ?_)
            go_simp
            refine (ddur_any p F _ _ _ _ _ _ (Hd5.out.keep hrd)).mono ?_
            rintro e w5 ⟨v, rfl, hown5, hb55⟩
            obtain ⟨A6, c6, rfl, -, -, hA6⟩ := own_at hown5
            have hb45 : Below wr.heap.size wr w5 := hrd.trans (hb55.mono hrd.size)
            refine hK'.out (fun w' => Below w5.heap.size w5 w') _ _ (fun w' h => hb45.trans (h.mono hb45.size)) (Below.refl _ _) ?_
            clear hK' K' k1
            have HB6 := Lib.hid (HB5.out.below hb45 HB5.out.lt)
            have HB64 := Lib.hid (HB54.out.below hb45 HB54.out.lt)
            have hcv5 : ∀ w', Below w5.heap.size w5 w' → (convert 27 9 (.slice A6 (durB S 34).length c6)).run Try.prog w' = .ok (.string (str (durB S 34))) w' := fun w' h => convStr w' _ _ _ _ (hA6.below h (Nat.le_refl _)) rfl
            have hb06 : Below w.heap.size w w5 := hb05.trans (hb45.mono hb05.size)
            clear hown5 hb55 hb45 hrd
            iterate 5
              refine plan_still2 (v := ?_) (a' := ?_) (by rfl) (fun w' hS' => ?_) ?_ ?_
              rotate_left 2
              (focus (go_simp <;> with_reducible rfl))
              (focus (simp only [Act.put, List.setIfInBounds_toArray, List.set_cons_zero, List.set_cons_succ] <;> rfl))
            refine plan_do (by rfl) (fun K' hK' => ?_)
            go_simp
            refine (dwrites_any p ms mc m false _ HB6.out).mono ?_
            rintro e w' ⟨rfl, rfl⟩
            refine hK'.out _ _ (Below.refl _ _) ?_
            clear hK' K'
            iterate 8
              refine plan_still2 (v := ?_) (a' := ?_) (by rfl) (fun w' hS' => ?_) ?_ ?_
              rotate_left 2
              (focus (go_simp <;> with_reducible rfl))
              (focus (simp only [Act.put, List.setIfInBounds_toArray, List.set_cons_zero, List.set_cons_succ] <;> rfl))
            refine plan_do (by rfl) (fun K' hK' => ?_)
            go_simp
            refine (dwrites_any p4 ms4 mc4 0 false _ HB64.out).mono ?_
            rintro e w' ⟨rfl, rfl⟩
            refine hK'.out _ _ (Below.refl _ _) ?_
            clear hK' K'
            iterate 4
              refine plan_still2 (v := ?_) (a' := ?_) (by rfl) (fun w' hS' => ?_) ?_ ?_
              rotate_left 2
              (focus (go_simp <;> with_reducible rfl))
              (focus (simp only [Act.put, List.setIfInBounds_toArray, List.set_cons_zero, List.set_cons_succ] <;> rfl))
            refine plan_do (by rfl) (fun K' hK' => ?_)
            go_simp
            refine (wakes3_any _).mono ?_
            rintro e w7 ⟨rfl, hb7⟩
            refine hK'.out _ _ hb7 ?_
            clear hK' K'
            iterate 2
              refine plan_still2 (v := ?_) (a' := ?_) (by rfl) (fun w' hS' => ?_) ?_ ?_
              rotate_left 2
              (focus (go_simp <;> with_reducible rfl))
              (focus (simp only [Act.put, List.setIfInBounds_toArray, List.set_cons_zero, List.set_cons_succ] <;> rfl))
            refine plan_nil ?_
            go_wp2_with fail
            go_ret
            exact ⟨rfl, hb06.trans (hb7.mono hb06.size)⟩
end Go.Proofs.Ytdinhcgkkoceiaa
