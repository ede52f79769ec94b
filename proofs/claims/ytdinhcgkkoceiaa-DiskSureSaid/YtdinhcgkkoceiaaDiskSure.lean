/- The walk of the law DiskSure. -/
import Derived.Test.YtdinhcgkkoceiaaDiskS
namespace Go.Proofs.Ytdinhcgkkoceiaa
open Go.RowKit

theorem cur_cput (S : Nat → List UInt8) (C : Nat → List (List UInt8)) (i : Nat) (l : List UInt8) : cur S (cput C i l) i = l := by
  unfold cur cput
  rw [if_pos rfl]
  simp [List.getLastD_eq_getLast?]

set_option maxRecDepth 100000 in
set_option maxHeartbeats 8000000 in
theorem dsure_walk (A : Option Addr) (L : List AV) (n c : Nat) (w : World) (hA : At w A (acells L)) (hn : n = L.length) (hR : AReads w L) :
    Calls Try.prog 3 #[.slice A n c] w fun e w' => e = .returned (.bool true) ∧ Below w.heap.size w w' := by
  have HA := Lib.hid hA
  have Hn := Lib.hid hn
  have HR := Lib.hid hR
  clear hA hn hR
  go_enter Try.func3, Try.ntmps3
  go_wp2_with fail
  refine (great_any A L n c _ HA.out Hn.out).mono ?_
  rintro e w' ⟨⟨gr, rfl, hgr⟩, rfl⟩
  cases gr with
  | true =>
    go_wp2_with fail
    refine (wakes3_any _).mono ?_
    rintro e w2 ⟨rfl, hb2⟩
    go_wp2_with fail
    go_ret
    exact ⟨rfl, hb2⟩
  | false =>
  have HSm := Lib.hid (hgr rfl)
  clear hgr
  have hn200 : n ≤ 200 := by rw [Hn.out]; exact HSm.out.1
  go_wp2_with fail
  refine (dnew_any _).mono ?_
  rintro e w1 ⟨p, F1, rfl, hd1, hF1, hb1⟩
  have Hd1 := Lib.hid hd1
  have HF1 := Lib.hid hF1
  clear hd1 hF1
  go_wp2_with fail
  refine (ddur_any p F1 _ _ _ _ _ _ Hd1.out).mono ?_
  rintro e w2 ⟨v, rfl, hown2, hb2⟩
  obtain ⟨A2, c2, rfl, -, -, hA2⟩ := own_at hown2
  have hcv : (convert 27 9 (.slice A2 (durB (fun _ => zsec) 34).length c2)).run Try.prog w2 = .ok (.string (str (durB (fun _ => zsec) 34))) w2 := convStr w2 _ _ _ _ hA2 rfl
  have Hd2 := Lib.hid (Hd1.out.keep hb2)
  have hb02 : Below w.heap.size w w2 := hb1.trans (hb2.mono hb1.size)
  clear hown2 hA2 hb1 hb2
  generalize (fun _ : Nat => zsec) = S0 at hcv Hd2
  go_wp2_with fail
  clear hcv
  go_loopw [4, 5, 21] (fun sv nv i wr => ∃ (j m q : Nat) (F : Nat → Prop) (S : Nat → List UInt8) (C : Nat → List (List UInt8)), j ≤ n ∧ i = .int .i64 j ∧ m ≤ j ∧ q ≤ j ∧ nv = .int .i64 m ∧ sv = .string (str (durB S 34)) ∧
      Hid (Dk wr p F q S C m false) ∧ Hid (∀ g, F g → w.heap.size ≤ g) ∧ Hid (∀ i, (C i).length ≤ j) ∧ Below w.heap.size w wr) (fun _ _ i _ => n - (intOf i).toNat)
  case atStart => exact ⟨0, 0, 0, F1, S0, fun _ => [], by omega, rfl, by omega, by omega, rfl, rfl, Hd2.out, HF1.out, fun _ => by simp, hb02⟩
  case round =>
    obtain ⟨j, m, q, F, S, C, hj, rfl, hm, hq, rfl, rfl, hD, hF, hC, hb⟩ := hrel
    by_cases hlt : (j : Int) < (n : Int)
    · obtain ⟨x, hx⟩ : ∃ x, L[j]? = some x := ⟨_, List.getElem?_eq_getElem (by have := Hn.out; omega)⟩
      obtain ⟨b, off, rfl, -, -⟩ := HA.out.all (by rw [acells_length]; have := Hn.out; omega)
      have hX := (HA.out.below hb (Nat.le_refl _)).act hx
      have hRx := HR.out x (List.mem_of_getElem? hx)
      obtain ⟨d, nn, B, l, cb, P, lp, cp⟩ := x
      have HX := Lib.hid hX
      have HB := Lib.hid hRx.1
      have Hnn := Lib.hid hRx.2.2
      have Hcb := Lib.hid hRx.2.1
      have HI := Lib.hid (show (Try.prog.info? 31).map (·.size) = some ([Value.int .i64 d, .int .i64 nn, .slice B l.length cb, .slice P lp cp]).length by kernel_rfl)
      have j0 : (0 : Int) ≤ (j : Int) := by omega
      have j1 : (j : Int) < 200 := by omega
      clear hX hRx hx
      have hY : Blk (wr.alloc (.cells [Value.int .i64 d, .int .i64 nn, .slice B l.length cb, .slice P lp cp].toArray 31)) wr.heap.size 31 [.int .i64 d, .int .i64 nn, .slice B l.length cb, .slice P lp cp] := Blk.new _ _ _
      have hbW : Below wr.heap.size wr (wr.alloc (.cells [Value.int .i64 d, .int .i64 nn, .slice B l.length cb, .slice P lp cp].toArray 31)) := (Below.refl _ _).alloc (Nat.le_refl _) _
      obtain ⟨W, hW⟩ : ∃ W, W = wr.alloc (.cells [Value.int .i64 d, .int .i64 nn, .slice B l.length cb, .slice P lp cp].toArray 31) := ⟨_, rfl⟩
      rw [← hW] at hY hbW
      have HW := Lib.hid hW
      have HY := Lib.hid hY
      have HDW := Lib.hid (hD.out.keep hbW)
      have hbwW : Below w.heap.size w W := hb.trans (hbW.mono hb.size)
      have hxF : ¬ F wr.heap.size := fun h => by have := hD.out.fl _ h; omega
      have hm2 : m < 1000000 := by omega
      have HmB := Lib.hid hm2
      clear hW hY hbW hm2
      by_cases hd : d = 2
      · subst hd
        go_wp2_with (refine wpList_load_at rfl 31 (.tmp 26) rfl b (off + j * 4) rfl [.int .i64 2, .int .i64 nn, .slice B l.length cb, .slice P lp cp] _ HX.out (Nat.zero_lt_succ _) Try.underlying31 rfl HI.out ?_)
        change Calls _ _ _ (wr.alloc (.cells [Value.int .i64 2, .int .i64 nn, .slice B l.length cb, .slice P lp cp].toArray 31)) _
        rw [← HW.out]
        refine (dflush_ok p F q S C m _ HDW.out (by omega) (fun i _ => Nat.le_trans (hC.out i) (by omega))).mono ?_
        rintro e w3 ⟨rfl, hd3, hc3⟩
        have hb3 : Below w.heap.size w w3 := hbwW.trans (hc3.below hF.out hbwW.size)
        have Hd3 := Lib.hid hd3
        obtain ⟨ms, mc, hB3⟩ := hd3.blk
        have HB3 := Lib.hid hB3
        clear hd3 hc3 hB3
        go_wp2_with fail
        refine (dwrites_any p ms mc 0 false _ HB3.out).mono ?_
        rintro e w' ⟨rfl, rfl⟩
        go_wp2_with fail
        refine (ddur_any p F q _ _ _ _ _ Hd3.out).mono ?_
        rintro e w4 ⟨v, rfl, hown4, hb4⟩
        obtain ⟨A4, c4, rfl, -, -, hA4⟩ := own_at hown4
        have hcv : (convert 27 9 (.slice A4 (durB (cur S C) 34).length c4)).run Try.prog w4 = .ok (.string (str (durB (cur S C) 34))) w4 := convStr w4 _ _ _ _ hA4 rfl
        have Hd4 := Lib.hid (Hd3.out.keep hb4)
        have hb04 : Below w.heap.size w w4 := hb3.trans (hb4.mono hb3.size)
        clear hown4 hA4 hb4 hb3
        go_wp2_with fail
        exact ⟨⟨j + 1, 0, q, F, cur S C, fun _ => [], by omega, by go_num, by omega, by omega, rfl, rfl, Hd4.out, hF.out, fun _ => by simp, hb04⟩, by simp [intOf]; omega⟩
      · have hd2 : (d == 2) = false := by simpa using hd
        by_cases hok : 0 ≤ nn ∧ nn < 34 ∧ l.length ≤ 64
        · obtain ⟨h1, h2, h3⟩ := hok
          obtain ⟨i, rfl⟩ : ∃ i : Nat, nn = (i : Int) := ⟨nn.toNat, by omega⟩
          have hi : i < 34 := by omega
          have H3 := Lib.hid h3
          have HBW := Lib.hid (HB.out.below hbwW (Nat.le_refl _))
          clear h3 h1 h2
          go_wp2_with (refine wpList_load_at rfl 31 (.tmp 26) rfl b (off + j * 4) rfl [.int .i64 d, .int .i64 (i : Int), .slice B l.length cb, .slice P lp cp] _ HX.out (Nat.zero_lt_succ _) Try.underlying31 rfl HI.out ?_)
          change Calls _ _ _ (wr.alloc (.cells [Value.int .i64 d, .int .i64 (i : Int), .slice B l.length cb, .slice P lp cp].toArray 31)) _
          rw [← HW.out]
          refine (dwrite_ok p F q S C m i hi B l l.length cb _ HDW.out HBW.out rfl H3.out (by omega) HmB.out (Nat.lt_of_le_of_lt (hC.out i) (by omega))).mono ?_
          rintro e w3 ⟨F3, rfl, hd3, hc3, hF3⟩
          have hb3 : Below w.heap.size w w3 := hbwW.trans (hc3.below hF.out hbwW.size)
          have HF3 := Lib.hid (show ∀ g, F3 g → w.heap.size ≤ g from fun g hg => (hF3 g hg).elim (hF.out g) (fun h => Nat.le_trans hbwW.size h))
          have HY3 := Lib.hid (HY.out.chg hc3 hxF)
          have Hd3 := Lib.hid hd3
          have HC3 := Lib.hid (cput_len C i (pad l) j hC.out)
          have c1 : w3.cell? ⟨wr.heap.size, 1, none⟩ = some (.int .i64 (i : Int)) := HY3.out.cell 1
          clear hd3 hc3 hF3
          go_wp2_with fail
          refine (dread_ok p F3 _ S (cput C i (pad l)) _ i hi _ Hd3.out (Nat.lt_of_le_of_lt (HC3.out i) (by omega))).mono ?_
          rintro e w4 ⟨g, rfl, hB4, -, -, hb4⟩
          rw [cur_cput] at hB4
          have Hd4 := Lib.hid (Hd3.out.keep hb4)
          have HY4 := Lib.hid (HY3.out.below hb4 HY3.out.lt)
          have hb04 : Below w.heap.size w w4 := hb3.trans (hb4.mono hb3.size)
          have HA4 := Lib.hid (show At w4 (some ⟨g, 0, none⟩) (bs l) from (hB4.at_ 0 (bs (pad l)) (fun j u hu => by rw [Nat.zero_add]; exact hu) |> fun h => by unfold pad at h; rw [bs_append] at h; exact h.left))
          have HB4 := Lib.hid (HB.out.below hb04 (Nat.le_refl _))
          clear c1 hB4 hb4 hb3
          go_wp2_with fail
          have y2 : ∀ w', Below w4.heap.size w4 w' → w'.cell? ⟨wr.heap.size, 2, none⟩ = some (.slice B l.length cb) := fun w' h => (HY4.out.below h HY4.out.lt).cell 2
          have k1 : ∀ w', Below w4.heap.size w4 w' → (convert 27 9 (.slice (some ⟨g, 0, none⟩) l.length 64)).run Try.prog w' = .ok (.string (str l)) w' := fun w' h => convStr w' _ _ _ l (HA4.out.below h (Nat.le_refl _)) rfl
          have k2 : ∀ w', Below w4.heap.size w4 w' → (convert 27 9 (.slice B l.length cb)).run Try.prog w' = .ok (.string (str l)) w' := fun w' h => convStr w' _ _ _ l (HB4.out.below h (Nat.le_refl _)) rfl
          have q1 : (0 : Int) ≤ (l.length : Int) := by omega
          have q2 : (l.length : Int) ≤ 64 := by have := H3.out; omega
          have hrd : Below w4.heap.size w4 w4.drew := (Below.refl _ _).drew
          refine region_plan (S := fun w' => Below w4.heap.size w4 w') [(true, 0), (true, 1), (true, 2), (true, 3), (true, 4), (true, 5), (true, 6), (true, 7), (true, 8), (true, 9), (true, 10), (true, 11), (true, 12), (true, 13), (true, 14), (true, 15), (true, 16), (true, 17), (true, 18), (true, 19), (true, 20), (true, 23), (false, 21), (true, 22), (true, 24), (true, 25), (true, 26), (true, 27), (true, 29), (false, 28), (true, 30), (true, 31)] (by kernel_rfl) (by kernel_rfl) (by kernel_rfl) rfl hrd ?_
          simp only [planned_nil, planned_cons, nth_zero, nth_succ]
          iterate 22
            refine plan_still2 (v := ?_) (a' := ?_) (by rfl) (fun w' hS' => ?_) ?_ ?_
            rotate_left 2
            (focus (go_simp <;> with_reducible rfl))
            (focus (simp only [Act.put, List.setIfInBounds_toArray, List.set_cons_zero, List.set_cons_succ] <;> rfl))
          refine plan_turn (by rfl) (fun K' hK' => ?_)
          go_simp
          refine (ddur_any p F3 _ _ _ _ _ _ (Hd4.out.keep hrd)).mono ?_
          rintro e w5 ⟨v, rfl, hown5, hb5⟩
          obtain ⟨A5, c5, rfl, -, -, hA5⟩ := own_at hown5
          have hb45 : Below w4.heap.size w4 w5 := hrd.trans (hb5.mono hrd.size)
          refine hK'.out (fun w' => Below w5.heap.size w5 w') _ _ (fun w' h => hb45.trans (h.mono hb45.size)) (Below.refl _ _) ?_
          clear hK' K' y2 k1 k2
          obtain ⟨ms, mc, hB5⟩ := (Hd4.out.keep hb45).blk
          have HB5 := Lib.hid hB5
          have hcv5 : ∀ w', Below w5.heap.size w5 w' → (convert 27 9 (.slice A5 (durB S 34).length c5)).run Try.prog w' = .ok (.string (str (durB S 34))) w' := fun w' h => convStr w' _ _ _ _ (hA5.below h (Nat.le_refl _)) rfl
          have Hd5 := Lib.hid (Hd4.out.keep hb45)
          have hb05 : Below w.heap.size w w5 := hb04.trans (hb45.mono hb04.size)
          clear hown5 hB5 hb5 hb45
          iterate 6
            refine plan_still2 (v := ?_) (a' := ?_) (by rfl) (fun w' hS' => ?_) ?_ ?_
            rotate_left 2
            (focus (go_simp <;> with_reducible rfl))
            (focus (simp only [Act.put, List.setIfInBounds_toArray, List.set_cons_zero, List.set_cons_succ] <;> rfl))
          refine plan_do (by rfl) (fun K' hK' => ?_)
          go_simp
          refine (dwrites_any p ms mc (m + 1) false _ HB5.out).mono ?_
          rintro e w' ⟨rfl, rfl⟩
          refine hK'.out _ _ (Below.refl _ _) ?_
          clear hK' K'
          iterate 2
            refine plan_still2 (v := ?_) (a' := ?_) (by rfl) (fun w' hS' => ?_) ?_ ?_
            rotate_left 2
            (focus (go_simp <;> with_reducible rfl))
            (focus (simp only [Act.put, List.setIfInBounds_toArray, List.set_cons_zero, List.set_cons_succ] <;> rfl))
          refine plan_nil ?_
          clear hcv5
          go_wp2_with fail
          exact ⟨⟨j + 1, m + 1, q + 1, F3, S, cput C i (pad l), by omega, by go_num, by omega, by omega, by go_num, rfl, Hd5.out, HF3.out, HC3.out, hb05⟩, by simp [intOf]; omega⟩
        · have Hno := Lib.hid hok
          clear hok
          go_wp2_with (refine wpList_load_at rfl 31 (.tmp 26) rfl b (off + j * 4) rfl [.int .i64 d, .int .i64 nn, .slice B l.length cb, .slice P lp cp] _ HX.out (Nat.zero_lt_succ _) Try.underlying31 rfl HI.out ?_)
          obtain ⟨ms, mc, hB⟩ := HDW.out.blk
          have HB0 := Lib.hid hB
          clear hB
          change Calls _ _ _ (wr.alloc (.cells [Value.int .i64 d, .int .i64 nn, .slice B l.length cb, .slice P lp cp].toArray 31)) _
          rw [← HW.out]
          refine (dwrite_no p ms mc m false nn B l.length cb _ HB0.out (by have := Hno.out; omega)).mono ?_
          rintro e w' ⟨x, rfl, hx, rfl⟩
          go_wp2_with fail
          exact ⟨⟨j + 1, m, q, F, S, C, by omega, by go_num, by omega, by omega, rfl, rfl, HDW.out, hF.out, fun i => Nat.le_succ_of_le (hC.out i), hbwW⟩, by simp [intOf]; omega⟩
    · go_wp2_with fail
      refine (wakes3_any _).mono ?_
      rintro e w2 ⟨rfl, hb2⟩
      have hbb := hb.trans (hb2.mono hb.size)
      go_wp2_with fail
      go_ret
      exact ⟨rfl, hbb⟩
end Go.Proofs.Ytdinhcgkkoceiaa
