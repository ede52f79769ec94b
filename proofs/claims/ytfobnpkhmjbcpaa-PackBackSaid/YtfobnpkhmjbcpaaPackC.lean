/- The walks of package pack's reference: Value. -/
import Derived.Test.YtfobnpkhmjbcpaaPackB
namespace Go.Proofs.Ytfobnpkhmjbcpaa
open Go.RowKit

/-- the first k bytes, then zeros, 8 in all -/
def part (l : List UInt8) (k : Nat) : List Value := bs (l.take k) ++ zrow (8 - k)
theorem part_zero (l : List UInt8) : part l 0 = zrow 8 := by simp [part, bs]
theorem part_eight (l : List UInt8) (h : l.length = 8) : part l 8 = bs l := by
  unfold part; rw [List.take_of_length_le (by omega)]; simp [zrow]
theorem part_length (l : List UInt8) (k : Nat) (hk : k ≤ 8) (h : l.length = 8) : (part l k).length = 8 := by
  simp [part, zrow, bs_length]; omega
theorem part_set (l : List UInt8) (k : Nat) (hk : k < 8) (h : l.length = 8) : (part l k).set k (B8 (l[k]'(by omega))) = part l (k + 1) := by
  have h1 : (bs (l.take k)).length = k := by rw [bs_length]; simp; omega
  unfold part
  rw [List.set_append_right _ _ (by omega), h1, Nat.sub_self]
  have h2 : zrow (8 - k) = .int .u8 0 :: zrow (8 - (k + 1)) := by
    unfold zrow
    rw [show 8 - k = (8 - (k + 1)) + 1 by omega, List.replicate_succ]
  rw [h2, List.set_cons_zero, List.take_succ_eq_append_getElem (by omega)]
  show bs (l.take k) ++ B8 (l[k]'(by omega)) :: zrow (8 - (k + 1)) = bs (l.take k ++ [l[k]'(by omega)]) ++ zrow (8 - (k + 1))
  unfold bs
  rw [List.map_append, List.append_assoc]
  rfl

set_option maxRecDepth 100000 in
set_option maxHeartbeats 1000000 in
theorem rvalue_no (A : Option Addr) (n c : Nat) (w : World) (hn : n ≠ 8) :
    Calls Try.prog 17 #[.slice A n c] w fun e w' => e = .returned (.tuple #[.agg (zrow 8).toArray, .int .i64 2]) ∧ Below w.heap.size w w' := by
  have hn' : ¬ ((n : Int) = 8) := by omega
  have hs : (Try.prog.info? 36).map (·.size) = some (zrow 8).toArray.size := by kernel_rfl
  have h1 : (zrow 8).toArray.all (·.oneCell') = true := by decide +kernel
  have Hs := Lib.hid hs
  have H1 := Lib.hid h1
  clear hs h1 hn
  go_enter Try.func17, Try.ntmps17
  have HB0 := Lib.hid ((Blk.new w 36 (zrow 8)).alloc (.cells (zrow 8).toArray 36))
  have hB1 := Blk.new (w.alloc (.cells (zrow 8).toArray 36)) 36 (zrow 8)
  rw [World.size_alloc] at hB1
  have HB1 := Lib.hid hB1
  clear hB1
  go_wp2_with (first
    | (refine wpList_load_row rfl _ (.tmp 4) rfl (w.heap.size + 1) rfl 36 (zrow 8).toArray (0, 0) _ HB1.out Try.underlying36 rfl Hs.out ?_)
    | (refine wpList_store_row rfl _ (.tmp 2) (.tmp 9) rfl w.heap.size (zrow 8).toArray rfl rfl 36 (zrow 8).toArray HB0.out Hs.out rfl H1.out ?_))
  refine bodyPost_ret (v := .tuple #[.agg (zrow 8).toArray, .int .i64 2]) ?_ rfl ⟨rfl, ?_⟩
  · exact results_cell_tmp_blk (p := 2) (u := 3) rfl _ _ rfl (HB0.out.row (zrow 8)) Try.underlying36 rfl (by kernel_rfl)
  exact below_setRow (((Below.refl _ _).alloc (Nat.le_refl _) _).alloc (by simp) _) (Nat.le_refl _) _

set_option maxRecDepth 100000 in
set_option maxHeartbeats 1000000 in
theorem rvalue_yes (A : Option Addr) (l : List UInt8) (n c : Nat) (w : World) (hA : At w A (bs l)) (hn : n = 8) (hl : l.length = 8) :
    Calls Try.prog 17 #[.slice A n c] w fun e w' => e = .returned (.tuple #[.agg (bs l).toArray, .int .i64 0]) ∧ Below w.heap.size w w' := by
  subst hn
  have HA : Hid (At w A (bs l)) := hA
  have hbl : (bs l).length = 8 := by rw [bs_length, hl]
  have hs : (Try.prog.info? 36).map (·.size) = some (bs l).toArray.size := by rw [List.size_toArray, hbl]; kernel_rfl
  have hs' : (Try.prog.info? 36).map (·.size) = some (bs l).length := by rw [hbl]; kernel_rfl
  have h1 : (bs l).toArray.all (·.oneCell') = true := by
    rw [List.all_toArray, List.all_eq_true]; exact one_bs l
  have h8 : (zrow 8).toArray.size = (bs l).toArray.size := by rw [List.size_toArray, List.size_toArray, hbl]; rfl
  have Hs := Lib.hid hs
  have Hs' := Lib.hid hs'
  have H1 := Lib.hid h1
  have H8 := Lib.hid h8
  have Hl := Lib.hid hl
  clear hs hs' h1 hbl h8 hl hA
  go_enter Try.func17, Try.ntmps17
  go_wp2_with fail
  have hA : Blk ((w.alloc (.cells (zrow 8).toArray 36)).alloc (.cells (zrow 8).toArray 36)) w.heap.size 36 (zrow 8) := (Blk.new w 36 (zrow 8)).alloc (.cells (zrow 8).toArray 36)
  have hB : Blk ((w.alloc (.cells (zrow 8).toArray 36)).alloc (.cells (zrow 8).toArray 36)) (w.heap.size + 1) 36 (zrow 8) := by
    have := Blk.new (w.alloc (.cells (zrow 8).toArray 36)) 36 (zrow 8)
    rwa [World.size_alloc] at this
  have hb : Below w.heap.size w ((w.alloc (.cells (zrow 8).toArray 36)).alloc (.cells (zrow 8).toArray 36)) := ((Below.refl _ _).alloc (Nat.le_refl _) _).alloc (by simp) _
  rw [← part_zero l] at hB
  go_loopw [5] (fun i wr => ∃ k : Nat, k ≤ 8 ∧ i = .int .i64 k ∧ Hid (Blk wr w.heap.size 36 (zrow 8)) ∧ Hid (Blk wr (w.heap.size + 1) 36 (part l k)) ∧ Below w.heap.size w wr) (fun i _ => 8 - (intOf i).toNat)
  case atStart => exact ⟨0, by omega, rfl, hA, hB, hb⟩
  case round =>
    obtain ⟨k, hk, rfl, hA, hB, hb⟩ := hrel
    by_cases hlt : k < 8
    · obtain ⟨b, off, rfl, hbl, hc⟩ := (HA.out.below hb (Nat.le_refl _)).get (k := k) (by rw [bs_length, Hl.out]; omega)
      rw [bs_get l k (by rw [Hl.out]; omega)] at hc
      obtain ⟨x, hx⟩ : ∃ x, x = l[k]'(by rw [Hl.out]; omega) := ⟨_, rfl⟩
      rw [← hx] at hc
      have Hx := Lib.hid hx
      have hpl : k < (part l k).length := by rw [part_length l k hk Hl.out]; omega
      have hcb : wr.cell? ⟨w.heap.size + 1, k, none⟩ = some ((part l k)[k]) := by rw [hB.out.cell, List.getElem?_eq_getElem hpl]
      obtain ⟨v0, hv0⟩ : ∃ v, v = (part l k)[k] := ⟨_, rfl⟩
      rw [← hv0] at hcb
      have hf := hB.out.frozen k
      clear hx hv0 hpl
      go_wp2
      go_roundw
      case rel =>
        refine ⟨k + 1, by omega, by go_num, hA.out.far (by simp) _, ?_, hb.setCell (by simp) _⟩
        have h2 := hB.out.set_ k (B8 x)
        rw [Hx.out, part_set l k hlt Hl.out, ← Hx.out] at h2
        exact h2
      case measure => simp [intOf]; omega
    · have hk8 : k = 8 := by omega
      rw [hk8, part_eight l Hl.out] at hB
      clear hk8
      go_wp2_with (first
        | (refine wpList_load_row rfl _ (.tmp 4) rfl (w.heap.size + 1) rfl 36 (bs l).toArray (0, 0) _ hB.out Try.underlying36 rfl Hs.out ?_)
        | (refine wpList_store_row rfl _ (.tmp 2) (.tmp 20) rfl w.heap.size (bs l).toArray rfl rfl 36 (zrow 8).toArray hA.out Hs.out H8.out H1.out ?_))
      refine bodyPost_ret (v := .tuple #[.agg (bs l).toArray, .int .i64 0]) ?_ rfl ⟨rfl, ?_⟩
      · exact results_cell_tmp_blk (p := 2) (u := 3) rfl _ _ rfl (hA.out.row (bs l)) Try.underlying36 rfl Hs'.out
      exact below_setRow hb (Nat.le_refl _) _
end Go.Proofs.Ytfobnpkhmjbcpaa
