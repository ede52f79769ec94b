/- The walks of package sums: through, Join, Sum. -/
import Derived.Test.YtcaejcdmkihmbaaSumsA
namespace Go.Proofs.Ytcaejcdmkihmbaa
open Go.RowKit

theorem u32_and15 (x : BitVec 32) : bits .and .u32 (n32 x) 15 = n32 (x &&& 15#32) := u32_and_bv x 15#32
theorem n32_shr4 (x : BitVec 32) : n32 x / (16 : Int) = n32 (x >>> 4) := n32_shr x 4 16 rfl
theorem u32_xor_byte (x : BitVec 32) (b : UInt8) : bits .xor .u32 (n32 x) (n8 b) = n32 (x ^^^ BitVec.setWidth 32 b.toBitVec) := by
  have : n8 b = n32 (BitVec.setWidth 32 b.toBitVec) := by
    unfold n8 n32
    rw [BitVec.toNat_setWidth, Nat.mod_eq_of_lt (by have := b.toBitVec.isLt; omega)]; rfl
  rw [this, u32_xor_bv]
theorem n32_15 (x : BitVec 32) : n32 (x &&& 15#32) < 16 := by
  unfold n32
  rw [BitVec.toNat_and]
  have : (15#32).toNat = 2 ^ 4 - 1 := rfl
  rw [this, Nat.and_two_pow_sub_one_eq_mod]
  have := Nat.mod_lt x.toNat (show 0 < 2 ^ 4 by decide)
  omega
theorem nib_n32 (x : BitVec 32) : bits .xor .u32 (n32 x / 16) (n32 (Crc.tab (n32 (x &&& 15#32)).toNat)) = n32 (Crc.nib x) := by
  rw [n32_shr4, u32_xor_bv]; unfold Crc.nib; congr 3

attribute [local go_sem] u32_and15

set_option maxRecDepth 100000 in
set_option maxHeartbeats 400000 in
theorem through_any (r : BitVec 32) (A : Option Addr) (l : List UInt8) (n c : Nat) (w : World) (hA : At w A (bs l)) (hn : n = l.length) (hb : n ≤ 140737488351232) :
    Calls Try.prog 33 #[.int .u32 (n32 r), .slice A n c] w fun e w' => e = .returned (.int .u32 (n32 (Crc.crc r l))) ∧ Below w.heap.size w w' := by
  subst hn
  have hr0 := n32_0 r
  have hs : (Try.prog.info? 61).map (·.size) = some (tabRow 16).toArray.size := by
    rw [List.size_toArray, tabRow_length]; kernel_rfl
  have hsz : (tabRow 0).toArray.size = (tabRow 16).toArray.size := by simp [tabRow_length]
  have h1 : (tabRow 16).toArray.all (·.oneCell') = true := by decide +kernel
  have Hs := Lib.hid hs; have Hsz := Lib.hid hsz; have H1 := Lib.hid h1
  clear hs hsz h1
  have HA : Hid (At w A (bs l)) := hA
  clear hA
  go_enter Try.func33, Try.ntmps33
  go_wp2_with fail
  refine (table_any _).mono ?_
  rintro e w1 ⟨rfl, hb1⟩
  have hT0 : Blk (w1.alloc (.cells (tabRow 0).toArray 61)) w1.heap.size 61 (tabRow 0) := Blk.new w1 _ _
  have HT0 := Lib.hid hT0
  clear hT0
  go_wp2_with (refine wpList_store_row rfl _ (.tmp 5) (.tmp 7) rfl w1.heap.size (tabRow 16).toArray rfl rfl 61 (tabRow 0).toArray HT0.out Hs.out Hsz.out H1.out ?_)
  rw [tabRow_zero]
  have hT : Blk ((w1.alloc (.cells (tabRow 0).toArray 61)).setRow w1.heap.size (tabRow 16).toArray) w1.heap.size 61 (tabRow 16) := HT0.out.row _
  have hb2 : Below w.heap.size w ((w1.alloc (.cells (tabRow 0).toArray 61)).setRow w1.heap.size (tabRow 16).toArray) := below_setRow (hb1.alloc hb1.size _) hb1.size _
  have hA2 := HA.out.below hb2 (Nat.le_refl _)
  generalize (w1.alloc (.cells (tabRow 0).toArray 61)).setRow w1.heap.size (tabRow 16).toArray = w2 at hT hb2 hA2 ⊢
  generalize w1.heap.size = T at *
  have HA2 : Hid (At w2 A (bs l)) := hA2
  have HT : Hid (Blk w2 T 61 (tabRow 16)) := hT
  clear hA2 hT HT0 HA hb1 Hs Hsz H1
  go_loop [0, 10] (fun s i => ∃ k : Nat, k ≤ l.length ∧ i = .int .i64 k ∧ ∃ y : BitVec 32, s = .int .u32 (n32 y) ∧ Hid (y = Crc.crc r (l.take k))) (fun _ i => l.length - (intOf i).toNat)
  case atStart => exact ⟨0, by omega, rfl, r, rfl, by simp [Crc.crc, Hid]⟩
  case round =>
    obtain ⟨k, hk, rfl, y, rfl, hy⟩ := hrel
    have hy0 := n32_0 y
    by_cases hlt : k < l.length
    · obtain ⟨b, off, rfl, hbl, hc⟩ := HA2.out.get (k := k) (by rw [bs_length]; exact hlt)
      rw [bs_get l k hlt] at hc
      have g0 := n8_0 l[k]
      have g1 := n8_lt l[k]
      obtain ⟨x, hx⟩ : ∃ x, x = l[k] := ⟨_, rfl⟩
      rw [← hx] at hc g0 g1
      have Hx := Lib.hid hx
      clear hx
      obtain ⟨y1, hy1⟩ : ∃ y1, y1 = y ^^^ BitVec.setWidth 32 x.toBitVec := ⟨_, rfl⟩
      have e1 : bits .xor .u32 (n32 y) (n8 x) = n32 y1 := by rw [hy1, u32_xor_byte]
      have e2 := nib_n32 y1
      have e3 := nib_n32 (Crc.nib y1)
      have j1 := n32_0 (y1 &&& 15#32)
      have j2 := n32_0 (Crc.nib y1 &&& 15#32)
      have j3 := n32_0 y1
      have j4 := n32_0 (Crc.nib y1)
      have i1 := n32_15 y1
      have i2 := n32_15 (Crc.nib y1)
      have c1 : w2.cell? ⟨T, (n32 (y1 &&& 15#32)).toNat, none⟩ = some (.int .u32 (n32 (Crc.tab (n32 (y1 &&& 15#32)).toNat))) := by rw [HT.out.cell, tabRow_full _ (by omega)]
      have c2 : w2.cell? ⟨T, (n32 (Crc.nib y1 &&& 15#32)).toNat, none⟩ = some (.int .u32 (n32 (Crc.tab (n32 (Crc.nib y1 &&& 15#32)).toNat))) := by rw [HT.out.cell, tabRow_full _ (by omega)]
      have Hy1 := Lib.hid hy1
      clear hy1
      go_wp2
      go_round
      case rel =>
        refine ⟨k + 1, by omega, by go_num, Crc.nib (Crc.nib y1), rfl, ?_⟩
        unfold Hid
        rw [Hy1.out, hy.out, Hx.out, List.take_succ_eq_append_getElem hlt, Crc.crc_append]
        rfl
      case measure => simp [intOf]; omega
    · go_wp2
      go_ret
      have hkl : k = l.length := by omega
      refine ⟨?_, hb2⟩
      rw [hy.out, hkl, List.take_length]; rfl

theorem through_int (x : Int) (r : BitVec 32) (A : Option Addr) (l : List UInt8) (n c : Nat) (w : World) (hx : x = n32 r) (hA : At w A (bs l)) (hn : n = l.length) (hb : n ≤ 140737488351232) :
    Calls Try.prog 33 #[.int .u32 x, .slice A n c] w fun e w' => e = .returned (.int .u32 (n32 (Crc.crc r l))) ∧ Below w.heap.size w w' := by
  subst hx; exact through_any r A l n c w hA hn hb

theorem compl_bv (x : BitVec 32) : bits .xor .u32 IntKind.u32.max (n32 x) = n32 (~~~ x) := by
  have h : IntKind.u32.max = n32 (BitVec.allOnes 32) := by decide
  rw [h, u32_xor_bv, BitVec.allOnes_xor]

set_option maxRecDepth 100000 in
set_option maxHeartbeats 400000 in
theorem join_any (s : BitVec 32) (A : Option Addr) (l : List UInt8) (n c : Nat) (w : World) (hA : At w A (bs l)) (hn : n = l.length) (hb : n ≤ 140737488351232) :
    Calls Try.prog 30 #[.int .u32 (n32 s), .slice A n c] w fun e w' => e = .returned (.int .u32 (n32 (Crc.join s l))) ∧ Below w.heap.size w w' := by
  have hr0 := n32_0 s
  subst hn
  go_enter Try.func30, Try.ntmps30
  go_wp2_with fail
  refine (through_int _ (~~~ s) A l _ c _ (compl_bv s) hA rfl hb).mono ?_
  rintro e w1 ⟨rfl, hb1⟩
  go_wp2_with fail
  go_ret
  exact ⟨by rw [compl_bv]; rfl, hb1⟩

theorem join_int (x : Int) (s : BitVec 32) (A : Option Addr) (l : List UInt8) (n c : Nat) (w : World) (hx : x = n32 s) (hA : At w A (bs l)) (hn : n = l.length) (hb : n ≤ 140737488351232) :
    Calls Try.prog 30 #[.int .u32 x, .slice A n c] w fun e w' => e = .returned (.int .u32 (n32 (Crc.join s l))) ∧ Below w.heap.size w w' := by
  subst hx; exact join_any s A l n c w hA hn hb

set_option maxRecDepth 100000 in
set_option maxHeartbeats 400000 in
theorem sum_any (A : Option Addr) (l : List UInt8) (n c : Nat) (w : World) (hA : At w A (bs l)) (hn : n = l.length) (hb : n ≤ 140737488351232) :
    Calls Try.prog 20 #[.slice A n c] w fun e w' => e = .returned (.int .u32 (n32 (Crc.sum l))) ∧ Below w.heap.size w w' := by
  subst hn
  go_enter Try.func20, Try.ntmps20
  go_wp2_with fail
  refine (join_int _ 0#32 A l _ c _ (by decide) hA rfl hb).mono ?_
  rintro e w1 ⟨rfl, hb1⟩
  go_wp2_with fail
  go_ret
  exact ⟨rfl, hb1⟩
end Go.Proofs.Ytcaejcdmkihmbaa
