/- The walks of package stripe: Block. -/
import Derived.Test.YtbleebiffpkcmaaStripeQ
namespace Go.Proofs.Ytbleebiffpkcmaa
open Go.RowKit

set_option maxRecDepth 100000 in
set_option maxHeartbeats 2000000 in
theorem block_in (V : Int) (of : List Int) (k : Nat) (x y : Int) (w : World) (h8 : of.length = 8) (hok : St.ok V of = true) (hk : k < 32) (hx0 : 0 < x) (hx : x = (St.shard of k : Int)) (hy : y = (St.slot of k : Int))
    (hf : ∀ b, b < k → ¬ (St.shard of b = St.shard of k ∧ St.slot of b = St.slot of k)) :
    Calls Try.prog 16 #[.agg (mp V of).toArray, .int .i64 x, .int .i64 y] w fun e w' => e = .returned (.tuple #[.int .i64 k, .int .i64 0]) ∧ Below w.heap.size w w' := by
  have H8 := Lib.hid h8
  have Hok := Lib.hid hok
  have Hx := Lib.hid hx
  have Hy := Lib.hid hy
  have Hf := Lib.hid hf
  obtain ⟨w1, hw1⟩ : ∃ w1, w1 = Bx w V of := ⟨_, rfl⟩
  have hb01 : Below w.heap.size w w1 := by rw [hw1]; exact (Below.refl _ _).alloc (Nat.le_refl _) _
  have hB1 : Blk w1 w.heap.size 34 (mp V of) := by rw [hw1]; exact Blk.new w 34 (mp V of)
  have hB0 : Blk (Bx w V of) w.heap.size 34 (mp V of) := Blk.new w 34 (mp V of)
  have HB0 := Lib.hid hB0
  have HB1 := Lib.hid hB1
  have hs : (Try.prog.info? 34).map (·.size) = some (mp V of).toArray.size := by rw [List.size_toArray, mp_length, h8]; kernel_rfl
  have Hs := Lib.hid hs
  have Hw1 := Lib.hid hw1
  clear h8 hok hx hy hf hw1 hB1 hB0 hs
  go_enter Try.func16, Try.ntmps16
  go_wp2_with (refine wpList_load_row rfl _ (.tmp 3) rfl w.heap.size rfl 34 (mp V of).toArray (0, 0) _ HB0.out Try.underlying34 rfl Hs.out ?_)
  change Calls _ _ _ (Bx w V of) _
  rw [← Hw1.out]
  refine (check_any V of _ H8.out).mono ?_
  rintro e w2 ⟨rfl, hb12⟩
  rw [Hok.out]
  have HB2 := Lib.hid (HB1.out.below hb12 HB1.out.lt)
  have hb02 : Below w.heap.size w w2 := hb01.trans (hb12.mono hb01.size)
  simp only [if_true]
  go_wp2_with fail
  go_loopw [18] (fun i wr => ∃ n : Nat, n ≤ k ∧ i = .int .i64 n ∧ Hid (Blk wr w.heap.size 34 (mp V of)) ∧ Below w.heap.size w wr) (fun i _ => 32 - (intOf i).toNat)
  case atStart => exact ⟨0, by omega, rfl, HB2.out, hb02⟩
  case round =>
    obtain ⟨n, hn, rfl, hB, hb⟩ := hrel
    have hlt : (n : Int) < 32 := by omega
    go_wp2_with (refine wpList_load_row rfl _ (.tmp 3) rfl w.heap.size rfl 34 (mp V of).toArray (0, 0) _ hB.out Try.underlying34 rfl Hs.out ?_)
    refine (place_in V of n _ H8.out Hok.out (by omega)).mono ?_
    rintro e w3 ⟨rfl, hb3⟩
    have HB3 := Lib.hid (hB.out.below hb3 hB.out.lt)
    have hb03 : Below w.heap.size w w3 := hb.trans (hb3.mono hb.size)
    obtain ⟨X, hX⟩ : ∃ X : Int, X = (St.shard of n : Int) := ⟨_, rfl⟩
    obtain ⟨Y, hY⟩ : ∃ Y : Int, Y = (St.sl of n : Int) := ⟨_, rfl⟩
    obtain ⟨Z, hZ⟩ : ∃ Z : Int, Z = St.er of n := ⟨_, rfl⟩
    rw [← hX, ← hY, ← hZ]
    by_cases hnk : n = k
    · have e1 : X = x := by rw [hX, hnk, Hx.out]
      have hs0 : ¬ St.shard of k = 0 := by have := Hx.out; omega
      have e2 : Y = y := by rw [hY, hnk, Hy.out]; unfold St.sl; rw [if_neg hs0]
      have e3 : Z = 0 := by rw [hZ, hnk]; unfold St.er; rw [if_neg hs0]
      rw [e1, e2, e3, hnk]
      clear hX hY hZ e1 e2 e3 hs0 hnk
      go_wp2_with fail
      go_ret2
      exact ⟨rfl, hb03⟩
    · have hn2 : n < k := by omega
      have hno := Hf.out n hn2
      have hcase : ¬ Z = 0 ∨ (Z = 0 ∧ ¬ X = x) ∨ (Z = 0 ∧ X = x ∧ ¬ Y = y) := by
        by_cases hs0 : St.shard of n = 0
        · left; rw [hZ]; unfold St.er; rw [if_pos hs0]; decide
        · have e3 : Z = 0 := by rw [hZ]; unfold St.er; rw [if_neg hs0]
          have e2 : Y = (St.slot of n : Int) := by rw [hY]; unfold St.sl; rw [if_neg hs0]
          right
          by_cases hxx : X = x
          · right
            refine ⟨e3, hxx, fun hyy => hno ⟨?_, ?_⟩⟩
            · have := Hx.out; omega
            · have := Hy.out; omega
          · left; exact ⟨e3, hxx⟩
      clear hX hY hZ hno hnk
      rcases hcase with h1 | ⟨h1, h2⟩ | ⟨h1, h2, h3⟩
      · go_wp2_with fail
        refine ⟨⟨n + 1, by omega, by go_num, HB3.out, hb03⟩, by simp [intOf]; omega⟩
      · subst h1
        go_wp2_with fail
        refine ⟨⟨n + 1, by omega, by go_num, HB3.out, hb03⟩, by simp [intOf]; omega⟩
      · subst h1
        subst h2
        go_wp2_with fail
        refine ⟨⟨n + 1, by omega, by go_num, HB3.out, hb03⟩, by simp [intOf]; omega⟩
end Go.Proofs.Ytbleebiffpkcmaa
