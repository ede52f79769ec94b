/- The walks of package pack: ReadValues; the reference's. -/
import Derived.Test.YtfobnpkhmjbcpaaPackV
import Derived.Test.YtfobnpkhmjbcpaaMemBuild
import Derived.StillTailTactics
namespace Go.Proofs.Ytfobnpkhmjbcpaa
open Go.RowKit

set_option maxRecDepth 100000 in
set_option maxHeartbeats 1000000 in
theorem readvals_no (A : Option Addr) (n c : Nat) (w : World) (h : n % 8 ≠ 0) (hb : n ≤ 16000) :
    Calls Try.prog 14 #[.slice A n c] w fun e w' => e = .returned (.tuple #[.slice none 0 0, .int .i64 40]) ∧ w = w' := by
  have ht : ¬ ((n : Int) / 8 * 8 = (n : Int)) := by omega
  clear h
  go_enter Try.func14, Try.ntmps14
  go_wp2
  go_ret2
  exact ⟨rfl, rfl⟩

set_option maxRecDepth 100000 in
set_option maxHeartbeats 1000000 in
theorem rreadvals_no (A : Option Addr) (n c : Nat) (w : World) (h : n % 8 ≠ 0) (hb : n ≤ 16000) :
    Calls Try.prog 15 #[.slice A n c] w fun e w' => e = .returned (.tuple #[.slice none 0 0, .int .i64 40]) ∧ w = w' := by
  have ht : ¬ ((n : Int) % 8 = 0) := by omega
  clear h
  go_enter Try.func15, Try.ntmps15
  go_wp2
  go_ret2
  exact ⟨rfl, rfl⟩

/-- the first k rows of eight, then zeros -/
def partv (l : List UInt8) (q k : Nat) : List Value := bs (l.take (k * 8)) ++ zrow ((q - k) * 8)
theorem partv_zero (l : List UInt8) (q : Nat) : partv l q 0 = zrow (q * 8) := by simp [partv, bs]
theorem partv_all (l : List UInt8) (q : Nat) (h : l.length = q * 8) : partv l q q = bs l := by
  unfold partv; rw [List.take_of_length_le (by omega)]; simp [zrow]
theorem partv_length (l : List UInt8) (q k : Nat) (hk : k ≤ q) (h : l.length = q * 8) : (partv l q k).length = q * 8 := by
  simp [partv, zrow, bs_length]; omega
theorem partv_splice (l : List UInt8) (q k : Nat) (hk : k < q) (h : l.length = q * 8) : splice (partv l q k) (k * 8) (bs ((l.drop (k * 8)).take 8)) = partv l q (k + 1) := by
  have h1 : (bs (l.take (k * 8))).length = k * 8 := by rw [bs_length]; simp; omega
  have h2 : (bs ((l.drop (k * 8)).take 8)).length = 8 := by rw [bs_length]; simp; omega
  unfold splice partv
  have h3 : (bs (l.take (k * 8))).drop (k * 8 + 8) = [] := List.drop_eq_nil_of_le (by omega)
  rw [h2, List.take_append_of_le_length (by omega), List.take_of_length_le (Nat.le_of_eq h1), List.drop_append, h1, h3, List.nil_append]
  rw [show (k + 1) * 8 = k * 8 + 8 by omega, List.take_add, bs_append, List.append_assoc]
  congr 2
  unfold zrow
  rw [List.drop_replicate]
  congr 1
  omega

set_option maxRecDepth 100000 in
set_option maxHeartbeats 1000000 in
theorem readvals_yes (A : Option Addr) (l : List UInt8) (n c q : Nat) (w : World) (hA : At w A (bs l)) (hn : n = l.length) (hq : n = q * 8) (hc : n ≤ c) (hb : q ≤ 2000) :
    Calls Try.prog 14 #[.slice A n c] w fun e w' => ∃ v, e = .returned (.tuple #[v, .int .i64 0]) ∧ w'.ownsRow w.heap.size 36 8 v q (bs l) ∧ Below w.heap.size w w' := by
  have HA : Hid (At w A (bs l)) := hA
  have Hn := Lib.hid hn
  have Hq := Lib.hid hq
  have Hlen := Lib.hid (hn.symm.trans hq)
  have ht : (n : Int) / 8 = (q : Int) := by omega
  have ht2 : (q : Int) * 8 = (n : Int) := by omega
  have Hv0 := Lib.hid (zero_of (P := Try.prog) (e := 36) (size := 8) (v := .int .u8 0) (z := .agg (zrow 8).toArray) (by kernel_rfl) rfl)
  have hs1 : (Try.prog.info? 5).map (·.size) = some 1 := by kernel_rfl
  have Hs1 := Lib.hid hs1
  clear hA hn hq hs1
  go_enter Try.func14, Try.ntmps14
  go_wp2_with (refine wpList_make rfl (.tmp 15) (.tmp 15) sliceTyV rfl (.int .u8 0) Hv0.out _ _ q q rfl rfl rfl rfl (Nat.le_refl _) (by omega) (by omega) (partv l q 0) (by rw [partv_zero]; rfl) ?_)
  have hB := Blk.new w 36 (partv l q 0)
  have hbel : Below w.heap.size w (w.alloc (.cells (partv l q 0).toArray 36)) := (Below.refl _ _).alloc (Nat.le_refl _) _
  go_loopw [18] (fun i wr => ∃ k : Nat, k ≤ q ∧ i = .int .i64 k ∧ Hid (Blk wr w.heap.size 36 (partv l q k)) ∧ Below w.heap.size w wr) (fun i _ => q - (intOf i).toNat)
  case atStart => exact ⟨0, by omega, rfl, hB, hbel⟩
  case round =>
    obtain ⟨k, hk, rfl, hB, hb⟩ := hrel
    by_cases hlt : k < q
    · have hcut : ∃ b off, A = some ⟨b, off, none⟩ ∧ At wr (some ⟨b, off + k * 8, none⟩) (bs ((l.drop (k * 8)).take 8)) := by
        have h0 := HA.out.below hb (Nat.le_refl _)
        obtain ⟨b, off, rfl, _⟩ := h0.all (by rw [bs_length, Hlen.out]; omega)
        have h := h0.cut (k * 8) 8
        rw [Option.map_some, addr_add] at h
        refine ⟨b, off, rfl, ?_⟩
        unfold bs
        rw [List.map_take, List.map_drop]
        exact h
      obtain ⟨b, off, rfl, hcut⟩ := hcut
      have HT := Lib.hid hcut
      have hl8 : (bs ((l.drop (k * 8)).take 8)).length = 8 := by
        rw [bs_length]; simp; have := Hlen.out; omega
      have Hl8 := Lib.hid hl8
      have hmin : (bs ((l.drop (k * 8)).take 8)).length = Nat.min (n - k * 8) 8 := by
        rw [Hl8.out]; have := Hq.out; show 8 = min (n - k * 8) 8; omega
      have Hmin := Lib.hid hmin
      clear hmin
      have q0 : (0 : Int) ≤ (k : Int) * 8 := by omega
      have q1 : (k : Int) * 8 ≤ (n : Int) := by omega
      have q3 : IntKind.i64.wrap ((k : Int) * 8) = (k : Int) * 8 := IntWalk.i64_in _ (by omega)
      have q4 : ((k : Int) * 8).toNat = k * 8 := by omega
      have q5 : ¬ (c = k * 8) := by omega
      have q2 : (k : Int) * 8 ≤ (c : Int) := by omega
      have HB := Lib.hid (show Blk wr.drew w.heap.size 36 (partv l q k) from hB.out)
      clear hcut hl8
      go_wp2_with fail
      go_still_tail 8, (by kernel_rfl)
      change wpList _ _ _ _ _ wr.drew
      go_wp2_with (refine wpList_copy rfl (.tmp 24) (.tmp 28) rfl Try.underlying22 Hs1.out w.heap.size (k * 8) 8 8 (some ⟨b, off + k * 8, none⟩) (n - k * 8) (c - k * 8) rfl rfl _ _ HB.out (bs ((l.drop (k * 8)).take 8)) HT.out.drew Hmin.out (by rw [Hl8.out, partv_length l q k (by omega) Hlen.out]; omega) (one_bs _) ?_)
      refine ⟨⟨k + 1, by omega, by go_num, ?_, below_setRow hb.drew (Nat.le_refl _) _⟩, by simp [intOf]; omega⟩
      have h2 := HB.out.row (splice (partv l q k) (k * 8) (bs ((l.drop (k * 8)).take 8)))
      rw [partv_splice l q k hlt Hlen.out] at h2 ⊢
      exact h2
    · have hkq : k = q := by omega
      rw [hkq, partv_all l q Hlen.out] at hB
      clear hkq
      go_wp2_with fail
      go_ret2
      exact ⟨_, rfl, hB.out.own (Nat.le_refl _) (by rw [bs_length]; exact Hlen.out) (Nat.le_refl _) (by unfold maxLen; omega) (List.take_of_length_le (by rw [bs_length, Hlen.out]; exact Nat.le_refl _)), hb⟩

set_option maxRecDepth 100000 in
set_option maxHeartbeats 1000000 in
theorem rreadvals_yes (A : Option Addr) (l : List UInt8) (n c q : Nat) (w : World) (hA : At w A (bs l)) (hn : n = l.length) (hq : n = q * 8) (hc : n ≤ c) (hb : q ≤ 2000) :
    Calls Try.prog 15 #[.slice A n c] w fun e w' => ∃ v, e = .returned (.tuple #[v, .int .i64 0]) ∧ w'.ownsRow w.heap.size 36 8 v q (bs l) ∧ Below w.heap.size w w' := by
  have HA : Hid (At w A (bs l)) := hA
  have Hn := Lib.hid hn
  have Hq := Lib.hid hq
  have Hlen := Lib.hid (hn.symm.trans hq)
  have ht : (n : Int) % 8 = 0 := by omega
  have hn8 : (n : Int) ≤ 16000 := by omega
  have hle1 : q * 8 ≤ n := by omega
  have hle2 : n ≤ q * 8 := by omega
  clear hA hn hq
  go_enter Try.func15, Try.ntmps15
  go_wp2_with fail
  clear ht
  go_loopw [4, 5] (fun v i wr => ∃ k : Nat, k ≤ q ∧ i = .int .i64 ((k : Int) * 8) ∧ Hid (wr.ownsRow w.heap.size 36 8 v k (bs (l.take (k * 8)))) ∧ Below w.heap.size w wr) (fun _ i _ => (n - intOf i).toNat)
  case atStart => exact ⟨0, by omega, rfl, by simpa [bs, Hid] using World.ownsRow_nil w w.heap.size 36 8, Below.refl _ _⟩
  case round =>
    obtain ⟨k, hk, rfl, ho, hb⟩ := hrel
    by_cases hlt : k < q
    · have hcut : ∃ b off, A = some ⟨b, off, none⟩ ∧ At wr (some ⟨b, off + k * 8, none⟩) (bs ((l.drop (k * 8)).take 8)) := by
        have h0 := HA.out.below hb (Nat.le_refl _)
        obtain ⟨b, off, rfl, _⟩ := h0.all (by rw [bs_length, Hlen.out]; omega)
        have h := h0.cut (k * 8) 8
        rw [Option.map_some, addr_add] at h
        refine ⟨b, off, rfl, ?_⟩
        unfold bs
        rw [List.map_take, List.map_drop]
        exact h
      obtain ⟨b, off, rfl, hcut⟩ := hcut
      have HT := Lib.hid hcut
      have hl8 : ((l.drop (k * 8)).take 8).length = 8 := by
        simp; have := Hlen.out; omega
      obtain ⟨m, hm⟩ : ∃ m, m = (l.drop (k * 8)).take 8 := ⟨_, rfl⟩
      rw [← hm] at HT hl8
      have Hl8 := Lib.hid hl8
      have Hm := Lib.hid hm
      have q0 : (0 : Int) ≤ (k : Int) * 8 := by omega
      have q1 : (k : Int) * 8 + 8 ≤ (n : Int) := by omega
      have q2 : (k : Int) * 8 + 8 ≤ (c : Int) := by omega
      have q4 : ((k : Int) * 8).toNat = k * 8 := by omega
      have q5 : ¬ (c = k * 8) := by omega
      have q6 : ((k : Int) * 8 + 8).toNat = k * 8 + 8 := by omega
      clear hcut hl8 hm
      go_wp2_with fail
      refine (rvalue_yes _ m _ _ _ HT.out rfl Hl8.out).mono ?_
      rintro e w2 ⟨rfl, hb2⟩
      have hsz := hb.size
      have hbl : (bs m).length = 8 := by rw [bs_length, Hl8.out]
      have hs : (Try.prog.info? 36).map (·.size) = some (bs m).toArray.size := by rw [List.size_toArray, hbl]; kernel_rfl
      have h1 : (bs m).toArray.all (·.oneCell') = true := by
        rw [List.all_toArray, List.all_eq_true]; exact one_bs m
      have h8 : (zrow 8).toArray.size = (bs m).toArray.size := by rw [List.size_toArray, List.size_toArray, hbl]; rfl
      have HB0 := Lib.hid (Blk.new w2 36 (zrow 8))
      have HB1 := Lib.hid (HB0.out.row (bs m))
      have Hs := Lib.hid hs
      have H1 := Lib.hid h1
      have H8 := Lib.hid h8
      have Hbl := Lib.hid hbl
      have hb02 : Below w.heap.size w ((w2.alloc (.cells (zrow 8).toArray 36)).setRow w2.heap.size (bs m).toArray) := by
        have h := hb.trans (hb2.mono hsz)
        exact below_setRow (h.alloc h.size _) h.size _
      have hb03 : Below wr.heap.size wr ((w2.alloc (.cells (zrow 8).toArray 36)).setRow w2.heap.size (bs m).toArray) := by
        exact below_setRow (hb2.alloc hb2.size _) hb2.size _
      obtain ⟨w3, hw3⟩ : ∃ w3, w3 = (w2.alloc (.cells (zrow 8).toArray 36)).setRow w2.heap.size (bs m).toArray := ⟨_, rfl⟩
      have hsz3 : w.heap.size ≤ w3.heap.size := by rw [hw3]; exact hb02.size
      have HO := Lib.hid ((own_below ho.out (hw3 ▸ hb03)).alloc (.cells (bs m).toArray 36))
      have HT3 := Lib.hid (at_new w3 (bs m) 36 (0, 0))
      have hb3 : Below w.heap.size w w3 := by rw [hw3]; exact hb02
      have HB3 := Lib.hid (show Blk w3 w2.heap.size 36 (bs m) by rw [hw3]; exact HB1.out)
      have Hw3 := Lib.hid hw3
      clear hw3 hb02 hb03
      clear hs h1 h8 hbl
      go_wp2_with (first
        | (refine wpList_store_row rfl _ (.tmp 6) (.tmp 25) rfl w2.heap.size (bs m).toArray rfl rfl 36 (zrow 8).toArray HB0.out Hs.out H8.out H1.out ?_; change wpList _ _ _ _ _ ((w2.alloc (.cells (zrow 8).toArray 36)).setRow w2.heap.size (bs m).toArray); rw [← Hw3.out])
        | (refine wpList_load_row rfl _ (.tmp 6) rfl w2.heap.size rfl 36 (bs m).toArray (0, 0) _ HB3.out Try.underlying36 rfl Hs.out ?_)
        | (refine wpList_build1 rfl (.tmp 28) sliceTyV rfl (bs m) rfl Hbl.out (by omega) ?_)
        | (refine wpList_app_own rfl (.tmp 27) (.tmp 29) sliceTyV rfl w.heap.size u4 k (bs (l.take (k * 8))) rfl HO.out _ 1 1 _ rfl HT3.out Hbl.out (one_bs _) (by unfold maxLen; omega) (by omega) (by simp; omega) ?_; intro v2 w4 hown2 hg2 hat2))
      go_roundw
      case rel =>
        refine ⟨k + 1, by omega, by congr 1; omega, ?_, (hb3.alloc hsz3 _).grown hg2 (by simp; omega) (fun j hj => (HO.out.lt j hj).1)⟩
        rw [Hm.out, ← bs_append, ← List.take_add] at hown2
        rw [show (k + 1) * 8 = k * 8 + 8 by omega]
        exact hown2
      case measure => simp [intOf]; omega
    · have hkq : k = q := by omega
      rw [hkq, List.take_of_length_le (by rw [Hlen.out]; exact Nat.le_refl _)] at ho
      have q1 : ¬ ((k : Int) * 8 < (n : Int)) := by omega
      clear hkq
      go_wp2_with fail
      go_ret2
      exact ⟨_, rfl, ho.out, hb⟩
end Go.Proofs.Ytfobnpkhmjbcpaa
