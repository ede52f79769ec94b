/- The walks of package sums: table, through, Join, Sum. -/
import Derived.Test.YtcaejcdmkihmbaaProg
import Derived.Test.YtcaejcdmkihmbaaPlainSums
import Derived.Test.YtcaejcdmkihmbaaMem
import Derived.Laws.CopyOwn
namespace Go.Proofs.Ytcaejcdmkihmbaa
open Go.RowKit

theorem u32_xor_bv (x y : BitVec 32) : bits .xor .u32 (n32 x) (n32 y) = n32 (x ^^^ y) := by
  unfold n32
  rw [u32_xor_nat _ _ x.isLt y.isLt, BitVec.toNat_xor]
theorem u32_and_bv (x y : BitVec 32) : bits .and .u32 (n32 x) (n32 y) = n32 (x &&& y) := by
  unfold n32
  rw [u32_and_nat _ _ x.isLt y.isLt, BitVec.toNat_and]
theorem n32_shr (x : BitVec 32) (k m : Nat) (h : m = 2 ^ k) : n32 x / (m : Int) = n32 (x >>> k) := by
  subst h
  unfold n32
  rw [BitVec.toNat_ushiftRight, Nat.shiftRight_eq_div_pow]; omega

theorem half_step (x : BitVec 32) : bits .xor .u32 (n32 x / 2) (bits .and .u32 3988292384 (-bits .and .u32 (n32 x) 1 % 4294967296)) = n32 (Crc.step x) := by
  have h1 : bits .and .u32 (n32 x) 1 = n32 (x &&& 1#32) := u32_and_bv x 1#32
  have h2 : (-(n32 (x &&& 1#32))) % 4294967296 = n32 (-(x &&& 1#32)) := by
    generalize x &&& 1#32 = y
    have := y.isLt
    unfold n32
    rw [BitVec.toNat_neg]
    omega
  have h3 : n32 x / (2 : Int) = n32 (x >>> 1) := n32_shr x 1 2 rfl
  have h4 : (3988292384 : Int) = n32 (0xEDB88320#32) := by decide
  rw [h1, h2, h3, h4, u32_and_bv, u32_xor_bv, Crc.mask]
  rfl

set_option maxHeartbeats 400000 in
theorem half_any (x : BitVec 32) (w : World) : Calls Try.prog 35 #[W32 x] w fun e w' => e = .returned (W32 (Crc.steps 4 x)) ∧ w = w' := by
  have hx0 := n32_0 x

  go_enter Try.func35, Try.ntmps35
  go_wp2
  go_loop [0, 3] (fun r i => ∃ k : Nat, k ≤ 4 ∧ i = .int .i64 k ∧ ∃ y : BitVec 32, r = .int .u32 (n32 y) ∧ Crc.steps (4 - k) y = Crc.steps 4 x) (fun _ i => 4 - (intOf i).toNat)
  case atStart => exact ⟨0, by omega, rfl, x, rfl, rfl⟩
  case round =>
    obtain ⟨k, hk, rfl, y, rfl, hy⟩ := hrel
    have hy0 := n32_0 y
    have Hy := Lib.hid hy
    clear hy
    by_cases hlt : k < 4
    · go_wp2
      go_round
      case rel => exact ⟨k + 1, by omega, by go_num, Crc.step y, by rw [half_step], by rw [← Hy.out, show 4 - k = (4 - (k + 1)) + 1 by omega]; rfl⟩
      case measure => simp [intOf]; omega
    · go_wp2
      go_ret
      have hk4 : k = 4 := by omega
      subst hk4
      exact ⟨by rw [← Hy.out]; rfl, rfl⟩

theorem half_int (n : Int) (x : BitVec 32) (w : World) (h : n = n32 x) : Calls Try.prog 35 #[.int .u32 n] w fun e w' => e = .returned (W32 (Crc.steps 4 x)) ∧ w = w' := by
  subst h; exact half_any x w

def tabRow (k : Nat) : List Value := (List.range 16).map fun j => if j < k then W32 (Crc.tab j) else .int .u32 0
theorem tabRow_length (k : Nat) : (tabRow k).length = 16 := by simp [tabRow]
theorem tabRow_zero : [.int .u32 0, .int .u32 0, .int .u32 0, .int .u32 0, .int .u32 0, .int .u32 0, .int .u32 0, .int .u32 0, .int .u32 0, .int .u32 0, .int .u32 0, .int .u32 0, .int .u32 0, .int .u32 0, .int .u32 0, .int .u32 0] = tabRow 0 := by
  rfl
theorem tabRow_set (k : Nat) : (tabRow k).set k (W32 (Crc.tab k)) = tabRow (k + 1) := by
  apply List.ext_getElem
  · simp [tabRow]
  · intro i h1 h2
    rw [List.getElem_set]
    simp only [tabRow, List.getElem_map, List.getElem_range]
    by_cases e : k = i
    · subst e; simp
    · rw [if_neg e]
      by_cases e2 : i < k
      · rw [if_pos e2, if_pos (by omega)]
      · rw [if_neg e2, if_neg (by omega)]
theorem tabRow_get (k j : Nat) (hj : j < 16) : ∃ v, (tabRow k)[j]? = some v := ⟨_, List.getElem?_eq_getElem (by rw [tabRow_length]; exact hj)⟩
theorem tabRow_full (j : Nat) (hj : j < 16) : (tabRow 16)[j]? = some (W32 (Crc.tab j)) := by
  rw [List.getElem?_eq_getElem (by rw [tabRow_length]; exact hj)]
  simp [tabRow, hj]

set_option maxRecDepth 100000 in
set_option maxHeartbeats 400000 in
theorem table_any (w : World) : Calls Try.prog 34 #[] w fun e w' => e = .returned (.agg (tabRow 16).toArray) ∧ Below w.heap.size w w' := by
  go_enter Try.func34, Try.ntmps34
  go_wp2
  have hA : Blk ((w.alloc (.cells (tabRow 0).toArray 61)).alloc (.cells (tabRow 0).toArray 61)) w.heap.size 61 (tabRow 0) := (Blk.new w _ _).alloc _
  have hB : Blk ((w.alloc (.cells (tabRow 0).toArray 61)).alloc (.cells (tabRow 0).toArray 61)) (w.heap.size + 1) 61 (tabRow 0) := by
    have := Blk.new (w.alloc (.cells (tabRow 0).toArray 61)) 61 (tabRow 0)
    rwa [World.size_alloc] at this
  have hb : Below w.heap.size w ((w.alloc (.cells (tabRow 0).toArray 61)).alloc (.cells (tabRow 0).toArray 61)) := ((Below.refl _ _).alloc (Nat.le_refl _) _).alloc (by simp) _
  rw [tabRow_zero]
  go_loopw [4] (fun i wr => ∃ k : Nat, k ≤ 16 ∧ i = .int .i64 k ∧ Hid (Blk wr w.heap.size 61 (tabRow 0)) ∧ Hid (Blk wr (w.heap.size + 1) 61 (tabRow k)) ∧ Below w.heap.size w wr) (fun i _ => 16 - (intOf i).toNat)
  case atStart => exact ⟨0, by omega, rfl, hA, hB, hb⟩
  case round =>
    obtain ⟨k, hk, rfl, hA, hB, hb⟩ := hrel
    by_cases hlt : k < 16
    · obtain ⟨v, hv⟩ := tabRow_get k k hlt
      have hc : wr.cell? ⟨w.heap.size + 1, k, none⟩ = some v := by rw [hB.out.cell, hv]
      have hf := hB.out.frozen k
      clear hv
      have hn : (k : Int) = n32 (BitVec.ofNat 32 k) := by
        unfold n32; rw [BitVec.toNat_ofNat, Nat.mod_eq_of_lt (by omega)]
      have Hn := Lib.hid hn
      clear hn
      go_wp2_with fail
      refine (half_int _ (BitVec.ofNat 32 k) _ Hn.out).mono ?_
      rintro e w' ⟨rfl, rfl⟩
      go_wp2
      go_roundw
      case rel => 
        refine ⟨k + 1, by omega, by go_num, ?_, ?_, ?_⟩
        · exact hA.out.far (by simp) _
        · have := hB.out.set_ k (W32 (Crc.tab k))
          rw [tabRow_set] at this
          exact this
        · exact hb.setCell (by simp) _
      case measure => simp [intOf]; omega
    · have hB2 : Hid (Blk wr (w.heap.size + 1) 61 (tabRow 16)) := by
        have hk16 : k = 16 := by omega
        rw [hk16] at hB
        exact hB
      have hs : (Try.prog.info? 61).map (·.size) = some (tabRow 16).toArray.size := by
        rw [List.size_toArray, tabRow_length]; kernel_rfl
      have hsz : (tabRow 0).toArray.size = (tabRow 16).toArray.size := by simp [tabRow_length]
      have h1 : (tabRow 16).toArray.all (·.oneCell') = true := by decide +kernel
      have Hs := Lib.hid hs; have Hsz := Lib.hid hsz; have H1 := Lib.hid h1
      clear hs hsz h1
      go_wp2_with (first
        | (refine wpList_load_row rfl _ (.tmp 2) rfl (w.heap.size + 1) rfl 61 (tabRow 16).toArray (0, 0) _ hB2.out Try.underlying61 rfl Hs.out ?_)
        | (refine wpList_store_row rfl _ (.tmp 0) (.tmp 14) rfl w.heap.size (tabRow 16).toArray rfl rfl 61 (tabRow 0).toArray hA.out Hs.out Hsz.out H1.out ?_))
      exact bodyPost_ret (v := .agg (tabRow 16).toArray) (results_cell_row rfl _ _ w.heap.size 61 _ (0, 0) _ rfl (hA.out.row (tabRow 16)) Try.underlying61 rfl Hs.out) rfl ⟨rfl, below_setRow hb (Nat.le_refl _) _⟩
end Go.Proofs.Ytcaejcdmkihmbaa
