/- The walk of the law StripeOwn. -/
import Derived.Test.YtbleebiffpkcmaaStripeW
namespace Go.Proofs.Ytbleebiffpkcmaa
open Go.RowKit

namespace St
theorem set_get (of : List Int) (s : Nat) (t : Int) (hs : s < of.length) : (of.set s t).getD s 0 = t := by
  simp [List.getD, hs]
theorem set_ne (of : List Int) (s i : Nat) (t : Int) (h : i ≠ s) : (of.set s t).getD i 0 = of.getD i 0 := by
  simp [List.getD, Ne.symm h]
theorem take_count (of : List Int) (s i : Nat) (t x : Int) (h1 : x ≠ t) (h2 : x ≠ of.getD s 0) : ((of.set s t).take i).count x = (of.take i).count x := by
  induction of generalizing s i with
  | nil => simp
  | cons a l ih =>
    cases i with
    | zero => simp
    | succ i =>
      cases s with
      | zero =>
        simp only [List.set_cons_zero, List.take_succ_cons]
        simp only [List.getD_cons_zero] at h2
        rw [List.count_cons_of_ne (Ne.symm h1), List.count_cons_of_ne (Ne.symm h2)]
      | succ s =>
        simp only [List.set_cons_succ, List.take_succ_cons, List.count_cons]
        rw [ih s i (by simpa [List.getD_cons_succ] using h2)]
theorem own_in (of : List Int) (s : Nat) (t : Int) (b : Nat) (h8 : of.length = 8) (hs : s < 8) (ht : 1 ≤ t) (hq : b / 4 = s) :
    (shard (of.set s t) b : Int) = t ∧ er (of.set s t) b = 0 := by
  have h : (shard (of.set s t) b : Int) = t := by
    unfold shard
    rw [hq, set_get of s t (by omega)]
    omega
  refine ⟨h, ?_⟩
  unfold er
  rw [if_neg (by omega)]
theorem own_out (of : List Int) (s : Nat) (t : Int) (b : Nat) (hq : b / 4 ≠ s) :
    shard (of.set s t) b = shard of b ∧ er (of.set s t) b = er of b ∧ ((of.getD (b / 4) 0) ≠ t → (of.getD (b / 4) 0) ≠ of.getD s 0 → sl (of.set s t) b = sl of b) := by
  have h : shard (of.set s t) b = shard of b := by
    unfold shard
    rw [set_ne of s _ t hq]
  refine ⟨h, by unfold er; rw [h], fun h1 h2 => ?_⟩
  unfold sl slot
  rw [h, set_ne of s _ t hq, take_count of s _ t _ h1 h2]
theorem shard_int {of : List Int} (h : okOf of = true) (h8 : of.length = 8) (b : Nat) (hb : b < 32) : (shard of b : Int) = of.getD (b / 4) 0 := by
  obtain ⟨S, hS, hS4⟩ := okOf_get h (b / 4) (by omega)
  unfold shard
  simp [List.getD, hS]
theorem ok_set {V : Int} {of : List Int} (h : ok V of = true) (s : Nat) (t : Int) (ht : 1 ≤ t) (ht4 : t ≤ 4) (hV : V < 1099511627776) : ok (V + 1) (of.set s t) = true := by
  unfold ok at h ⊢
  simp only [Bool.and_eq_true, decide_eq_true_eq] at h ⊢
  refine ⟨by omega, ?_⟩
  have h2 := h.2
  unfold okOf at h2 ⊢
  rw [List.all_eq_true] at h2 ⊢
  intro x hx
  rcases List.mem_or_eq_of_mem_set hx with h3 | rfl
  · exact h2 x h3
  · simp; omega
end St

theorem eight (l : List Int) (h : l.length = 8) : ∃ x0 x1 x2 x3 x4 x5 x6 x7, l = [x0, x1, x2, x3, x4, x5, x6, x7] := by
  rcases l with _ | ⟨x0, _ | ⟨x1, _ | ⟨x2, _ | ⟨x3, _ | ⟨x4, _ | ⟨x5, _ | ⟨x6, _ | ⟨x7, _ | ⟨x8, l⟩⟩⟩⟩⟩⟩⟩⟩⟩ <;> simp at h
  exact ⟨x0, x1, x2, x3, x4, x5, x6, x7, rfl⟩

set_option maxRecDepth 100000 in
set_option maxHeartbeats 2000000 in
theorem sown_no (V : Int) (of : List Int) (s t : Int) (w : World) (h8 : of.length = 8) (hno : ¬ (St.ok V of = true ∧ 0 ≤ s ∧ s < 8 ∧ 1 ≤ t ∧ t ≤ 4 ∧ V ≠ 1099511627776)) :
    Calls Try.prog 4 #[.agg (mp V of).toArray, .agg #[.int .i64 s, .int .i64 t]] w fun e w' => e = .returned (.bool true) ∧ Below w.heap.size w w' := by
  have H8 := Lib.hid h8
  have Hno := Lib.hid hno
  obtain ⟨w1, hw1⟩ : ∃ w1, w1 = (Bx w V of).alloc (.cells [Value.int .i64 s, .int .i64 t].toArray 36) := ⟨_, rfl⟩
  have hA0 : Blk ((Bx w V of).alloc (.cells [Value.int .i64 s, .int .i64 t].toArray 36)) w.heap.size 34 (mp V of) := (Blk.new w 34 (mp V of)).alloc _
  have hb01 : Below w.heap.size w w1 := by rw [hw1]; exact ((Below.refl _ _).alloc (Nat.le_refl _) _).alloc (by simp) _
  have HA0 := Lib.hid hA0
  have Hw1 := Lib.hid hw1
  have Hs := Lib.hid (show (Try.prog.info? 34).map (·.size) = some (mp V of).toArray.size by rw [List.size_toArray, mp_length, h8]; kernel_rfl)
  have Hz := Lib.hid (show (Try.prog.info? 34).map (·.size) = some (mp 0 (List.replicate 8 0)).toArray.size by kernel_rfl)
  have Hone := Lib.hid (show (mp 0 (List.replicate 8 0)).toArray.all (·.oneCell') = true by rw [List.all_toArray, List.all_eq_true]; exact mp_one _ _)
  clear hA0 hw1 h8 hno
  go_enter Try.func4, Try.ntmps4
  go_wp2_with (refine wpList_load_row rfl _ (.tmp 2) rfl w.heap.size rfl 34 (mp V of).toArray (0, 0) _ HA0.out Try.underlying34 rfl Hs.out ?_)
  change Calls _ _ _ ((Bx w V of).alloc (.cells [Value.int .i64 s, .int .i64 t].toArray 36)) _
  rw [← Hw1.out]
  refine (change_no V of s t _ H8.out Hno.out).mono ?_
  rintro e w2 ⟨x, rfl, hx, hb12⟩
  have hb02 : Below w.heap.size w w2 := hb01.trans (hb12.mono hb01.size)
  have HR := Lib.hid (Blk.new w2 34 (mp 0 (List.replicate 8 0)))
  go_wp2_with (refine wpList_store_row rfl _ (.tmp 5) (.tmp 18) rfl w2.heap.size (mp 0 (List.replicate 8 0)).toArray rfl rfl 34 (mp 0 (List.replicate 8 0)).toArray HR.out Hz.out rfl Hone.out ?_)
  refine (wakes22_any _).mono ?_
  rintro e w3 ⟨rfl, hb23⟩
  have hbr : Below w.heap.size w ((w2.alloc (.cells (mp 0 (List.replicate 8 0)).toArray 34)).setRow w2.heap.size (mp 0 (List.replicate 8 0)).toArray) := below_setRow (hb02.alloc hb02.size _) hb02.size _
  have hbr3 := hbr.trans (hb23.mono hbr.size)
  go_wp2_with fail
  go_ret
  exact ⟨rfl, hbr3⟩

set_option maxRecDepth 100000 in
set_option maxHeartbeats 2000000 in
theorem sown_yes (V : Int) (of : List Int) (s : Nat) (t : Int) (w : World) (h8 : of.length = 8) (hok : St.ok V of = true) (hs : s < 8) (ht1 : 1 ≤ t) (ht2 : t ≤ 4) (hV : V < 1099511627776) :
    Calls Try.prog 4 #[.agg (mp V of).toArray, .agg #[.int .i64 s, .int .i64 t]] w fun e w' => e = .returned (.bool true) ∧ Below w.heap.size w w' := by
  have H8 := Lib.hid h8
  have Hok := Lib.hid hok
  have HV := Lib.hid hV
  obtain ⟨of', hof'⟩ : ∃ of', of' = of.set s t := ⟨_, rfl⟩
  have H8' := Lib.hid (show of'.length = 8 by rw [hof', List.length_set, h8])
  have Hok' := Lib.hid (show St.ok (V + 1) of' = true by rw [hof']; exact St.ok_set hok s t ht1 ht2 hV)
  have Hof' := Lib.hid hof'
  obtain ⟨w1, hw1⟩ : ∃ w1, w1 = (Bx w V of).alloc (.cells [Value.int .i64 s, .int .i64 t].toArray 36) := ⟨_, rfl⟩
  have hA0 : Blk ((Bx w V of).alloc (.cells [Value.int .i64 s, .int .i64 t].toArray 36)) w.heap.size 34 (mp V of) := (Blk.new w 34 (mp V of)).alloc _
  have hA : Blk w1 w.heap.size 34 (mp V of) := by rw [hw1]; exact hA0
  have hC : Blk w1 (w.heap.size + 1) 36 [.int .i64 s, .int .i64 t] := by
    have := Blk.new (Bx w V of) 36 [.int .i64 s, .int .i64 t]
    rw [World.size_alloc] at this
    rw [hw1]; exact this
  have hb01 : Below w.heap.size w w1 := by rw [hw1]; exact ((Below.refl _ _).alloc (Nat.le_refl _) _).alloc (by simp) _
  have HA := Lib.hid hA
  have HC := Lib.hid hC
  have HA0 := Lib.hid hA0
  have Hw1 := Lib.hid hw1
  have Hs := Lib.hid (show (Try.prog.info? 34).map (·.size) = some (mp V of).toArray.size by rw [List.size_toArray, mp_length, h8]; kernel_rfl)
  have Hs' := Lib.hid (show (Try.prog.info? 34).map (·.size) = some (mp (V + 1) of').toArray.size by rw [List.size_toArray, mp_length, H8'.out]; kernel_rfl)
  have Hsz := Lib.hid (show (mp 0 (List.replicate 8 0)).toArray.size = (mp (V + 1) of').toArray.size by rw [List.size_toArray, List.size_toArray, mp_length, mp_length, H8'.out]; rfl)
  have Hone := Lib.hid (show (mp (V + 1) of').toArray.all (·.oneCell') = true by rw [List.all_toArray, List.all_eq_true]; exact mp_one _ _)
  have hV0 : 0 ≤ V := by
    unfold St.ok at hok
    simp only [Bool.and_eq_true, decide_eq_true_eq] at hok
    omega
  clear hA0 hA hC hw1 h8 hof' hok
  go_enter Try.func4, Try.ntmps4
  go_wp2_with (refine wpList_load_row rfl _ (.tmp 2) rfl w.heap.size rfl 34 (mp V of).toArray (0, 0) _ HA0.out Try.underlying34 rfl Hs.out ?_)
  change Calls _ _ _ ((Bx w V of).alloc (.cells [Value.int .i64 s, .int .i64 t].toArray 36)) _
  rw [← Hw1.out]
  refine (change_yes V of s t _ H8.out Hok.out hs ht1 ht2 hV).mono ?_
  rintro e w2 ⟨rfl, hb12⟩
  rw [← Hof'.out]
  have hb02 : Below w.heap.size w w2 := hb01.trans (hb12.mono hb01.size)
  have hA2 := HA.out.below hb12 HA.out.lt
  have hC2 := HC.out.below hb12 HC.out.lt
  have hR2 := Blk.new w2 34 (mp 0 (List.replicate 8 0))
  have hltA := hA2.lt
  have hltC := hC2.lt
  have HA3 := Lib.hid ((hA2.alloc (.cells (mp 0 (List.replicate 8 0)).toArray 34)).rowFar (k := w2.heap.size) (by omega) (mp (V + 1) of').toArray)
  have HC3 := Lib.hid ((hC2.alloc (.cells (mp 0 (List.replicate 8 0)).toArray 34)).rowFar (k := w2.heap.size) (by omega) (mp (V + 1) of').toArray)
  have HN3 := Lib.hid (hR2.row (mp (V + 1) of'))
  have HR2 := Lib.hid hR2
  have hbr : Below w.heap.size w ((w2.alloc (.cells (mp 0 (List.replicate 8 0)).toArray 34)).setRow w2.heap.size (mp (V + 1) of').toArray) := below_setRow (hb02.alloc hb02.size _) hb02.size _
  clear hA2 hC2 hR2
  go_wp2_with (refine wpList_store_row rfl _ (.tmp 5) (.tmp 18) rfl w2.heap.size (mp (V + 1) of').toArray rfl rfl 34 (mp 0 (List.replicate 8 0)).toArray HR2.out Hs'.out Hsz.out Hone.out ?_)
  go_loopw [7] (fun i wr => ∃ n : Nat, n ≤ 32 ∧ i = .int .i64 n ∧ Hid (Blk wr w.heap.size 34 (mp V of)) ∧ Hid (Blk wr (w.heap.size + 1) 36 [.int .i64 s, .int .i64 t]) ∧
    Hid (Blk wr w2.heap.size 34 (mp (V + 1) of')) ∧ Below w.heap.size w wr) (fun i _ => 32 - (intOf i).toNat)
  case atStart => exact ⟨0, by omega, rfl, HA3.out, HC3.out, HN3.out, hbr⟩
  case round =>
    obtain ⟨n, hn, rfl, hA, hC, hN, hb⟩ := hrel
    by_cases hlt : (n : Int) < 32
    · go_wp2_with (refine wpList_load_row rfl _ (.tmp 2) rfl w.heap.size rfl 34 (mp V of).toArray (0, 0) _ hA.out Try.underlying34 rfl Hs.out ?_)
      refine (place_in V of n _ H8.out Hok.out (by omega)).mono ?_
      rintro e w3 ⟨rfl, hb3⟩
      have HA3 := Lib.hid (hA.out.below hb3 hA.out.lt)
      have HC3 := Lib.hid (hC.out.below hb3 hC.out.lt)
      have HN3 := Lib.hid (hN.out.below hb3 hN.out.lt)
      have hb03 : Below w.heap.size w w3 := hb.trans (hb3.mono hb.size)
      go_wp2_with (refine wpList_load_row rfl _ (.tmp 5) rfl w2.heap.size rfl 34 (mp (V + 1) of').toArray (0, 0) _ HN3.out Try.underlying34 rfl Hs'.out ?_)
      refine (place_in (V + 1) of' n _ H8'.out Hok'.out (by omega)).mono ?_
      rintro e w4 ⟨rfl, hb4⟩
      have HA4 := Lib.hid (HA3.out.below hb4 HA3.out.lt)
      have HC4 := Lib.hid (HC3.out.below hb4 HC3.out.lt)
      have HN4 := Lib.hid (HN3.out.below hb4 HN3.out.lt)
      have hb04 : Below w.heap.size w w4 := hb03.trans (hb4.mono hb03.size)
      have c0 : w4.cell? ⟨w.heap.size + 1, 0, none⟩ = some (.int .i64 s) := HC4.out.cell 0
      have c1 : w4.cell? ⟨w.heap.size + 1, 1, none⟩ = some (.int .i64 t) := HC4.out.cell 1
      by_cases hq : n / 4 = s
      · obtain ⟨f1, f2⟩ := St.own_in of s t n H8.out hs ht1 hq
        rw [← Hof'.out] at f1 f2
        rw [f1, f2]
        have hq' : (n : Int) / 4 = s := by omega
        clear f1 f2 hq
        go_wp2_with fail
        refine ⟨⟨n + 1, by omega, by go_num, HA4.out, HC4.out, HN4.out, hb04⟩, by simp [intOf]; omega⟩
      · obtain ⟨f1, f2, f3⟩ := St.own_out of s t n hq
        rw [← Hof'.out] at f1 f2 f3
        have f4 := St.shard_int (St.ok_of Hok.out) H8.out n (by omega)
        obtain ⟨u, hu⟩ : ∃ u, u = of.getD s 0 := ⟨_, rfl⟩
        have aS : w4.cell? ⟨w.heap.size, 1 + s, none⟩ = some (.int .i64 u) := by
          rw [HA4.out.cell, Nat.add_comm]
          have : s < of.length := by rw [H8.out]; exact hs
          simp [mp, this, hu, List.getD]
        rw [f1, f2]
        obtain ⟨X, hX⟩ : ∃ X : Int, X = (St.shard of n : Int) := ⟨_, rfl⟩
        obtain ⟨Y, hY⟩ : ∃ Y : Int, Y = (St.sl of n : Int) := ⟨_, rfl⟩
        obtain ⟨Y', hY'⟩ : ∃ Y : Int, Y = (St.sl of' n : Int) := ⟨_, rfl⟩
        obtain ⟨Z, hZ⟩ : ∃ Z : Int, Z = St.er of n := ⟨_, rfl⟩
        rw [← hX, ← hY, ← hY', ← hZ]
        have f5 : X = t ∨ X = u ∨ Y' = Y := by
          rw [hX, hu, hY, hY', f4]
          by_cases h1 : of.getD (n / 4) 0 = t
          · exact .inl h1
          · by_cases h2 : of.getD (n / 4) 0 = of.getD s 0
            · exact .inr (.inl h2)
            · exact .inr (.inr (by rw [f3 h1 h2]))
        have hq' : ¬ ((n : Int) / 4 = s) := by omega
        have hs8 : (s : Int) < 8 := by omega
        clear f1 f2 f3 f4 hq hX hY hY' hZ hu
        by_cases h1 : X = t
        · subst h1
          go_wp2_with fail
          refine ⟨⟨n + 1, by omega, by go_num, HA4.out, HC4.out, HN4.out, hb04⟩, by simp [intOf]; omega⟩
        · by_cases h2 : X = u
          · subst h2
            clear f5
            go_wp2_with fail
            refine ⟨⟨n + 1, by omega, by go_num, HA4.out, HC4.out, HN4.out, hb04⟩, by simp [intOf]; omega⟩
          · obtain h3 : Y' = Y := by
              rcases f5 with h | h | h
              · exact absurd h h1
              · exact absurd h h2
              · exact h
            subst h3
            clear f5
            go_wp2_with fail
            refine ⟨⟨n + 1, by omega, by go_num, HA4.out, HC4.out, HN4.out, hb04⟩, by simp [intOf]; omega⟩
    · have a0 : wr.cell? ⟨w.heap.size, 0, none⟩ = some (.int .i64 V) := hA.out.cell 0
      have n0 : wr.cell? ⟨w2.heap.size, 0, none⟩ = some (.int .i64 (V + 1)) := hN.out.cell 0
      have hV' := HV.out
      obtain ⟨x0, x1, x2, x3, x4, x5, x6, x7, hx⟩ := eight of' H8'.out
      have hN' := hN.out
      have hok' := Hok'.out
      rw [hx] at hN' hok'
      clear hx
      have n1 : wr.cell? ⟨w2.heap.size, 1, none⟩ = some (.int .i64 x0) := hN'.cell 1
      have n2 : wr.cell? ⟨w2.heap.size, 2, none⟩ = some (.int .i64 x1) := hN'.cell 2
      have n3 : wr.cell? ⟨w2.heap.size, 3, none⟩ = some (.int .i64 x2) := hN'.cell 3
      have n4 : wr.cell? ⟨w2.heap.size, 4, none⟩ = some (.int .i64 x3) := hN'.cell 4
      have n5 : wr.cell? ⟨w2.heap.size, 5, none⟩ = some (.int .i64 x4) := hN'.cell 5
      have n6 : wr.cell? ⟨w2.heap.size, 6, none⟩ = some (.int .i64 x5) := hN'.cell 6
      have n7 : wr.cell? ⟨w2.heap.size, 7, none⟩ = some (.int .i64 x6) := hN'.cell 7
      have n8 : wr.cell? ⟨w2.heap.size, 8, none⟩ = some (.int .i64 x7) := hN'.cell 8
      clear hN'
      have Hok'' := Lib.hid hok'
      clear hok'
      go_wp2_with fail
      refine (check_any (V + 1) [x0, x1, x2, x3, x4, x5, x6, x7] _ rfl).mono ?_
      rintro e w3 ⟨rfl, hb3⟩
      rw [Hok''.out]
      simp only [if_true]
      have hb03 : Below w.heap.size w w3 := hb.trans (hb3.mono hb.size)
      go_wp2_with fail
      refine (wakes22_any _).mono ?_
      rintro e w4 ⟨rfl, hb4⟩
      have hb04 : Below w.heap.size w w4 := hb03.trans (hb4.mono hb03.size)
      go_wp2_with fail
      go_ret
      exact ⟨rfl, hb04⟩
end Go.Proofs.Ytbleebiffpkcmaa
