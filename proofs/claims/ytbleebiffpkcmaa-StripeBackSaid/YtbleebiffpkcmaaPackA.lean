/- The walks of package pack: Fits, Put, Get. -/
import Derived.Test.YtbleebiffpkcmaaProg
import Derived.Test.YtbleebiffpkcmaaMemApp
import Derived.Test.YtbleebiffpkcmaaRegion
import Derived.Test.YtbleebiffpkcmaaPlainPack
import Derived.Test.YtbleebiffpkcmaaRowsAid
namespace Go.Proofs.Ytbleebiffpkcmaa
open Go.RowKit

theorem bytesTyP : SliceTy Try.prog 47 5 1 1 := SliceTy.mk' (z := .int .u8 0) Try.underlying47 (by kernel_rfl) rfl (by decide)

theorem pow_pos' (k : Nat) : (0 : Int) < 2 ^ k := by
  have : (2 : Int) ^ k = ((2 ^ k : Nat) : Int) := by simp
  rw [this]; exact_mod_cast Nat.two_pow_pos k

theorem fits_test (n k : Int) (h1 : 1 ≤ k) (h2 : k ≤ 6) (h3 : 0 ≤ n) : (n / 2 ^ (8 * k).toNat == 0) = Pk.fits n k := by
  unfold Pk.fits
  rw [Bool.eq_iff_iff, beq_iff_eq, decide_eq_true_iff]
  have hp := pow_pos' (8 * k).toNat
  constructor
  · intro h
    refine ⟨h1, h2, h3, ?_⟩
    have := Int.lt_ediv_add_one_mul_self n hp
    rw [h] at this
    simpa using this
  · intro h
    exact Int.ediv_eq_zero_of_lt h3 h.2.2.2

set_option maxRecDepth 100000 in
set_option maxHeartbeats 400000 in
theorem fits_any (n k : Int) (w : World) :
    Calls Try.prog 30 #[.int .i64 n, .int .i64 k] w fun e w' => e = .returned (.bool (Pk.fits n k)) ∧ w = w' := by
  by_cases h1 : 1 ≤ k
  · by_cases h2 : k ≤ 6
    · by_cases h3 : 0 ≤ n
      · have ht := fits_test n k h1 h2 h3
        have Ht := Lib.hid ht
        clear ht
        go_enter Try.func30, Try.ntmps30
        go_wp2
        go_ret
        exact ⟨ret_eq (congrArg Value.bool Ht.out), rfl⟩
      · have ht : Pk.fits n k = false := by unfold Pk.fits; simp; omega
        have Ht := Lib.hid ht
        clear ht
        go_enter Try.func30, Try.ntmps30
        go_wp2
        go_ret
        exact ⟨ret_eq (congrArg Value.bool Ht.out.symm), rfl⟩
    · have ht : Pk.fits n k = false := by unfold Pk.fits; simp; omega
      have Ht := Lib.hid ht
      clear ht
      go_enter Try.func30, Try.ntmps30
      go_wp2
      go_ret
      exact ⟨ret_eq (congrArg Value.bool Ht.out.symm), rfl⟩
  · have ht : Pk.fits n k = false := by unfold Pk.fits; simp; omega
    have Ht := Lib.hid ht
    clear ht
    go_enter Try.func30, Try.ntmps30
    go_wp2
    go_ret
    exact ⟨ret_eq (congrArg Value.bool Ht.out.symm), rfl⟩

theorem fits_parts {n k : Int} (h : Pk.fits n k = true) : ∃ N W : Nat, n = N ∧ k = W ∧ 1 ≤ W ∧ W ≤ 6 ∧ N < 2 ^ (8 * W) := by
  unfold Pk.fits at h
  simp only [decide_eq_true_eq] at h
  obtain ⟨h1, h2, h3, h4⟩ := h
  refine ⟨n.toNat, k.toNat, by omega, by omega, by omega, by omega, ?_⟩
  have e : (8 * k).toNat = 8 * k.toNat := by omega
  rw [e] at h4
  have : (2 : Int) ^ (8 * k.toNat) = ((2 ^ (8 * k.toNat) : Nat) : Int) := by simp
  rw [this] at h4
  omega

theorem fits_nat (N W : Nat) (h1 : 1 ≤ W) (h2 : W ≤ 6) (hN : N < 2 ^ (8 * W)) : Pk.fits (N : Int) (W : Int) = true := by
  unfold Pk.fits
  have e : (8 * (W : Int)).toNat = 8 * W := by omega
  have e2 : (2 : Int) ^ (8 * W) = ((2 ^ (8 * W) : Nat) : Int) := by simp
  rw [e, e2]
  simp only [decide_eq_true_eq]
  omega

theorem byte_of (N j : Nat) : (N : Int) / 2 ^ (8 * j) % 256 = n8 (UInt8.ofNat (N / 2 ^ (8 * j))) := by
  unfold n8
  rw [UInt8.toNat_ofNat']
  have : (2 : Int) ^ (8 * j) = ((2 ^ (8 * j) : Nat) : Int) := by simp
  rw [this]
  omega

theorem own_bytes_more {w : World} {base n : Nat} {v : Value} {l : List UInt8} {x : UInt8} (h : w.ownsRow base 5 1 v n (bs l ++ [B8 x])) : w.ownsRow base 5 1 v n (bs (l ++ [x])) := by
  have : bs (l ++ [x]) = bs l ++ [B8 x] := by simp [bs]
  rw [this]; exact h

set_option maxRecDepth 100000 in
set_option maxHeartbeats 1000000 in
theorem put_yes (A : Option Addr) (l : List UInt8) (n c : Nat) (N W : Nat) (w : World) (hA : At w A (bs l)) (hn : n = l.length) (hb : n ≤ 1000000) (h1 : 1 ≤ W) (h2 : W ≤ 6) (hN : N < 2 ^ (8 * W)) :
    Calls Try.prog 27 #[.slice A n c, .int .i64 N, .int .i64 W] w fun e w' => ∃ v, e = .returned (.tuple #[v, .int .i64 0]) ∧ w'.ownsRow w.heap.size 5 1 v (l.length + W) (bs (l ++ Pk.le N W)) ∧ Below w.heap.size w w' := by
  subst hn
  have HA : Hid (At w A (bs l)) := hA
  have hf : Pk.fits (N : Int) (W : Int) = true := by
    unfold Pk.fits
    have e : (8 * (W : Int)).toNat = 8 * W := by omega
    have e2 : (2 : Int) ^ (8 * W) = ((2 ^ (8 * W) : Nat) : Int) := by simp
    rw [e, e2]
    simp only [decide_eq_true_eq]
    omega
  have Hf := Lib.hid hf
  have HN := Lib.hid hN
  clear hA hf hN
  go_enter Try.func27, Try.ntmps27
  go_wp2_with fail
  refine (fits_any _ _ _).mono ?_
  rintro e w' ⟨rfl, rfl⟩
  rw [Hf.out]
  have hB0 : Blk (w.alloc (.cells (zrow (l.length + W)).toArray 5)) w.heap.size 5 (zrow (l.length + W)) := Blk.new w _ _
  have hb0 : Below w.heap.size w (w.alloc (.cells (zrow (l.length + W)).toArray 5)) := (Below.refl _ _).alloc (Nat.le_refl _) _
  have HA0 := Lib.hid (HA.out.alloc (.cells (zrow (l.length + W)).toArray 5))
  have hv0 : ∀ i z, Try.prog.info? 5 = some i → i.zero = some z → z.cells = Array.replicate 1 (.int .u8 0) := by
    intro i z hi hz
    obtain ⟨i', z', h1', h2', _⟩ := bytesTyP.info
    have hz0 : (Try.prog.info? 5).bind (·.zero) = some (.int .u8 0) := by kernel_rfl
    rw [hi] at hz0
    simp only [Option.bind_some] at hz0
    rw [hz] at hz0
    injection hz0 with hz0
    rw [hz0]; rfl
  have Hv0 := Lib.hid hv0
  clear hv0
  have hs1 : (Try.prog.info? 5).map (·.size) = some 1 := by kernel_rfl
  have Hs1 := Lib.hid hs1
  clear hs1
  go_wp2_with (first
    | (refine wpList_make rfl (.tmp 15) (.tmp 19) bytesTyP rfl (.int .u8 0) Hv0.out _ _ l.length (l.length + W) rfl rfl rfl (by omega) (by omega) (by omega) (by omega) (zrow (l.length + W)) (by rw [Nat.mul_one]; rfl) ?_)
    | (refine wpList_copy rfl (.tmp 21) (.tmp 22) rfl Try.underlying47 Hs1.out w.heap.size 0 l.length (l.length + W) A l.length c rfl rfl _ _ hB0 (bs l) HA0.out (by simp [bs_length]) (by rw [bs_length, zrow_length]; omega) (one_bs _) ?_))
  have hB1 := hB0.row (splice (zrow (l.length + W)) 0 (bs l))
  have hlen : (splice (zrow (l.length + W)) 0 (bs l)).length = (l.length + W) * 1 := by
    rw [length_splice _ _ _ (by rw [bs_length, zrow_length]; omega), zrow_length]; omega
  have htk : (splice (zrow (l.length + W)) 0 (bs l)).take (l.length * 1) = bs l := by
    unfold splice
    simp [bs_length]
  have hown : ((w.alloc (.cells (zrow (l.length + W)).toArray 5)).setRow w.heap.size (splice (zrow (l.length + W)) 0 (bs l)).toArray).ownsRow w.heap.size 5 1 (.slice (some ⟨w.heap.size, 0, none⟩) l.length (l.length + W)) l.length (bs l) :=
    hB1.own (Nat.le_refl _) hlen (by omega) (by unfold maxLen; omega) htk
  have hb1 := below_setRow hb0 (Nat.le_refl w.heap.size) (splice (zrow (l.length + W)) 0 (bs l)).toArray
  generalize (w.alloc (.cells (zrow (l.length + W)).toArray 5)).setRow w.heap.size (splice (zrow (l.length + W)) 0 (bs l)).toArray = w1 at hown hb1 ⊢
  clear hB1 hlen htk hB0 hb0 HA0 Hv0 Hs1
  go_loopw [8, 25] (fun v i wr => ∃ k : Nat, k ≤ W ∧ i = .int .i64 k ∧ Hid (wr.ownsRow w.heap.size 5 1 v (l.length + k) (bs (l ++ Pk.le N k))) ∧ Below w.heap.size w wr) (fun _ i _ => W - (intOf i).toNat)
  case atStart => exact ⟨0, by omega, rfl, by simpa [Pk.le, Hid] using hown, hb1⟩
  case round =>
    obtain ⟨k, hk, rfl, ho, hb⟩ := hrel
    by_cases hlt : k < W
    · have hbyte := byte_of N k
      have hT : At (wr.alloc (.cells [B8 (UInt8.ofNat (N / 2 ^ (8 * k)))].toArray 5)) (some ⟨wr.heap.size, 0, none⟩) [B8 (UInt8.ofNat (N / 2 ^ (8 * k)))] := at_new wr _ _ _
      have HT := Lib.hid hT
      have HO := Lib.hid (ho.out.alloc (.cells [B8 (UInt8.ofNat (N / 2 ^ (8 * k)))].toArray 5))
      have hsz := hb.size
      clear hT
      go_wp2_with (refine wpList_app_own rfl (.tmp 28) (.tmp 34) bytesTyP rfl w.heap.size u8 (l.length + k) (bs (l ++ Pk.le N k)) rfl HO.out _ 1 1 _ rfl HT.out rfl (by intro u hu; simp at hu; subst hu; rfl) (by unfold maxLen; omega) (by omega) (by simp; omega) ?_; intro v2 w2 hown2 hg2 hat2)
      go_roundw
      case rel =>
        refine ⟨k + 1, by omega, by go_num, ?_, (hb.alloc hsz _).grown hg2 (by simp; omega) (fun j hj => (HO.out.lt j hj).1)⟩
        rw [Pk.le_succ, ← List.append_assoc]
        exact own_bytes_more hown2
      case measure => simp [intOf]; omega
    · have hkW : k = W := by omega
      rw [hkW] at ho
      clear hkW
      go_wp2_with fail
      go_ret2
      exact ⟨_, rfl, ho.out, hb⟩

set_option maxRecDepth 100000 in
set_option maxHeartbeats 400000 in
theorem put_no (A : Option Addr) (n c : Nat) (N W : Int) (w : World) (hf : Pk.fits N W = false) :
    Calls Try.prog 27 #[.slice A n c, .int .i64 N, .int .i64 W] w fun e w' => e = .returned (.tuple #[.slice none 0 0, .int .i64 2]) ∧ w = w' := by
  have Hf := Lib.hid hf
  clear hf
  go_enter Try.func27, Try.ntmps27
  go_wp2_with fail
  refine (fits_any _ _ _).mono ?_
  rintro e w' ⟨rfl, rfl⟩
  rw [Hf.out]
  go_wp2_with fail
  go_ret2
  exact ⟨rfl, rfl⟩

theorem put_int (A : Option Addr) (l : List UInt8) (n c : Nat) (x y : Int) (N W : Nat) (w : World) (hx : x = N) (hy : y = W) (hA : At w A (bs l)) (hn : n = l.length) (hb : n ≤ 1000000) (h1 : 1 ≤ W) (h2 : W ≤ 6) (hN : N < 2 ^ (8 * W)) :
    Calls Try.prog 27 #[.slice A n c, .int .i64 x, .int .i64 y] w fun e w' => ∃ v, e = .returned (.tuple #[v, .int .i64 0]) ∧ w'.ownsRow w.heap.size 5 1 v (l.length + W) (bs (l ++ Pk.le N W)) ∧ Below w.heap.size w w' := by
  subst hx hy; exact put_yes A l n c N W w hA hn hb h1 h2 hN

theorem i64_or_nat (a b : Nat) (ha : a < 2 ^ 62) (hb : b < 2 ^ 62) : bits .or .i64 (a : Int) (b : Int) = ((a ||| b : Nat) : Int) := by
  have hx : a ||| b < 2 ^ 62 := Nat.or_lt_two_pow ha hb
  have e : ∀ n : Nat, n < 2 ^ 62 → (BitVec.ofInt 64 (n : Int)).toNat = n := by
    intro n hn; rw [BitVec.ofInt_natCast, BitVec.toNat_ofNat]; omega
  show IntKind.i64.wrap ((BitVec.ofInt 64 (a : Int) ||| BitVec.ofInt 64 (b : Int)).toNat : Int) = _
  rw [BitVec.toNat_or, e a ha, e b hb]
  rw [IntKind.wrap_i64]
  omega

theorem pow8_le (k : Nat) (hk : k < 6) : (2 : Nat) ^ (8 * k) ≤ 2 ^ 40 := Nat.pow_le_pow_right (by omega) (by omega)

theorem get_bits (l : List UInt8) (x : UInt8) (hk : l.length < 6) :
    bits .or .i64 (Pk.num l : Int) (wrap64 (n8 x * 2 ^ (8 * l.length))) = (Pk.num (l ++ [x]) : Int) := by
  have hn := Pk.num_lt l
  have hp := pow8_le l.length hk
  have hx := x.toNat_lt
  have e : n8 x * 2 ^ (8 * l.length) = ((x.toNat * 2 ^ (8 * l.length) : Nat) : Int) := by unfold n8; simp
  have hm : x.toNat * 2 ^ (8 * l.length) ≤ 255 * 2 ^ 40 := Nat.mul_le_mul (by omega) hp
  rw [Pk.num_snoc, e]
  have ew : wrap64 ((x.toNat * 2 ^ (8 * l.length) : Nat) : Int) = ((x.toNat * 2 ^ (8 * l.length) : Nat) : Int) := by
    simp only [wrap64]; omega
  rw [ew, i64_or_nat _ _ (by omega) (by omega)]
  congr 1
  have h3 := Nat.shiftLeft_add_eq_or_of_lt hn x.toNat
  rw [Nat.or_comm, ← Nat.shiftLeft_eq, ← h3]
  omega

theorem take_drop_snoc {α : Type} (l : List α) (i k : Nat) (h : i + k < l.length) : (l.drop i).take (k + 1) = (l.drop i).take k ++ [l[i + k]] := by
  rw [List.take_succ_eq_append_getElem (by simp; omega)]
  simp

set_option maxRecDepth 100000 in
set_option maxHeartbeats 1000000 in
theorem get_yes (A : Option Addr) (l : List UInt8) (n c : Nat) (i W : Nat) (w : World) (hA : At w A (bs l)) (hn : n = l.length) (h1 : 1 ≤ W) (h2 : W ≤ 6) (hb : n ≤ 100000000) (hi : i + W ≤ l.length) :
    Calls Try.prog 28 #[.slice A n c, .int .i64 i, .int .i64 W] w fun e w' => e = .returned (.tuple #[.int .i64 (Pk.num ((l.drop i).take W)), .int .i64 0]) ∧ w = w' := by
  subst hn
  have HA : Hid (At w A (bs l)) := hA
  have t1 : ¬ ((l.length : Int) < (W : Int)) := by omega
  have t2 : ¬ ((l.length : Int) - (W : Int) < (i : Int)) := by omega
  clear hA
  go_enter Try.func28, Try.ntmps28
  go_wp2_with fail
  go_loop [6, 34] (fun v k' => ∃ k : Nat, k ≤ W ∧ k' = .int .i64 k ∧ v = .int .i64 (Pk.num ((l.drop i).take k))) (fun _ k' => W - (intOf k').toNat)
  case atStart => exact ⟨0, by omega, rfl, rfl⟩
  case round =>
    obtain ⟨k, hk, rfl, rfl⟩ := hrel
    by_cases hlt : k < W
    · obtain ⟨b, off, rfl, hbl, hc⟩ := HA.out.get (k := i + k) (by rw [bs_length]; omega)
      rw [bs_get l (i + k) (by omega)] at hc
      obtain ⟨x, hx⟩ : ∃ x, x = l[i + k] := ⟨_, rfl⟩
      rw [← hx] at hc
      have Hx := Lib.hid hx
      have x0 := n8_0 x
      have x1 := n8_lt x
      clear hx
      have t3 : (i : Int) + (k : Int) < (l.length : Int) := by omega
      go_wp2
      have hlk : ((l.drop i).take k).length = k := by simp; omega
      refine ⟨⟨k + 1, by omega, by go_num, ?_⟩, by simp [intOf]; omega⟩
      have hg := get_bits ((l.drop i).take k) x (by omega)
      rw [hlk] at hg
      rw [hg, take_drop_snoc l i k (by omega), ← Hx.out]
    · have hkW : k = W := by omega
      subst hkW
      go_wp2
      go_ret2
      exact ⟨rfl, rfl⟩

theorem get_int (A : Option Addr) (l : List UInt8) (n c : Nat) (x y : Int) (i W : Nat) (w : World) (hx : x = i) (hy : y = W) (hA : At w A (bs l)) (hn : n = l.length) (h1 : 1 ≤ W) (h2 : W ≤ 6) (hb : n ≤ 100000000) (hi : i + W ≤ l.length) :
    Calls Try.prog 28 #[.slice A n c, .int .i64 x, .int .i64 y] w fun e w' => e = .returned (.tuple #[.int .i64 (Pk.num ((l.drop i).take W)), .int .i64 0]) ∧ w = w' := by
  subst hx hy; exact get_yes A l n c i W w hA hn h1 h2 hb hi

set_option maxRecDepth 100000 in
set_option maxHeartbeats 400000 in
theorem get_arg (A : Option Addr) (n c : Nat) (i W : Int) (w : World) (h : ¬ (1 ≤ W ∧ W ≤ 6)) :
    Calls Try.prog 28 #[.slice A n c, .int .i64 i, .int .i64 W] w fun e w' => e = .returned (.tuple #[.int .i64 0, .int .i64 2]) ∧ w = w' := by
  by_cases h1 : W < 1
  · clear h
    go_enter Try.func28, Try.ntmps28
    go_wp2
    go_ret2
    exact ⟨rfl, rfl⟩
  · have h2 : 6 < W := by omega
    clear h
    go_enter Try.func28, Try.ntmps28
    go_wp2
    go_ret2
    exact ⟨rfl, rfl⟩

set_option maxRecDepth 100000 in
set_option maxHeartbeats 400000 in
theorem get_code (A : Option Addr) (n c : Nat) (i W : Int) (w : World) (h1 : 1 ≤ W) (h2 : W ≤ 6) (hb : n ≤ 100000000) (h : ¬ (0 ≤ i ∧ i + W ≤ n)) :
    Calls Try.prog 28 #[.slice A n c, .int .i64 i, .int .i64 W] w fun e w' => e = .returned (.tuple #[.int .i64 0, .int .i64 40]) ∧ w = w' := by
  by_cases h3 : i < 0
  · clear h
    go_enter Try.func28, Try.ntmps28
    go_wp2
    go_ret2
    exact ⟨rfl, rfl⟩
  · by_cases h4 : (n : Int) < W
    · clear h
      go_enter Try.func28, Try.ntmps28
      go_wp2
      go_ret2
      exact ⟨rfl, rfl⟩
    · have h5 : (n : Int) - W < i := by omega
      clear h
      go_enter Try.func28, Try.ntmps28
      go_wp2
      go_ret2
      exact ⟨rfl, rfl⟩
end Go.Proofs.Ytbleebiffpkcmaa
