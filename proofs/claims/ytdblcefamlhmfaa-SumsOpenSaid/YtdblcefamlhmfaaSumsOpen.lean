/- The walk of the law SumsOpen. -/
import Derived.Test.YtdblcefamlhmfaaSumsOwn
import Derived.StillTailTactics
namespace Go.Proofs.Ytdblcefamlhmfaa
open Go.RowKit

theorem u32_or_1 (b : BitVec 32) : bits .or .u32 (n32 b) 1 = n32 (b ||| 1#32) := by
  have h : (1 : Int) = n32 1#32 := by decide
  rw [h]
  unfold n32
  rw [u32_or_nat _ _ b.isLt (by decide), BitVec.toNat_or]

theorem bit_at (y : BitVec 32) (k : Nat) : bits .and .u32 (n32 y / 2 ^ k) 1 = if y.getLsbD k then 1 else 0 := by
  have h3 : n32 y / (2 ^ k : Int) = n32 (y >>> k) := by
    have := n32_shr y k (2 ^ k) rfl
    rw [← this]; congr 1; try simp
  have h1 : bits .and .u32 (n32 (y >>> k)) 1 = n32 ((y >>> k) &&& 1#32) := u32_and_bv _ 1#32
  rw [h3, h1, BitVec.and_one_eq_setWidth_ofBool_getLsbD]
  have h4 : (y >>> k).getLsbD 0 = y.getLsbD k := by simp
  rw [h4]
  cases y.getLsbD k <;> decide

theorem pw_n8 : ∀ r : Nat, r < 8 → (2 ^ r : Int) % 256 = n8 (Crc.pw r) := by
  intro r hr
  have : ∀ r : Fin 8, (2 ^ r.val : Int) % 256 = n8 (Crc.pw r.val) := by decide
  exact this ⟨r, hr⟩
theorem pw_xor (z : UInt8) (r : Nat) (hr : r < 8) : bits .xor .u8 (n8 z) (2 ^ r % 256) = n8 (z ^^^ Crc.pw r) := by
  rw [pw_n8 r hr, u8_xor_n8]
theorem grown_drew {w w' : World} {row : Option Nat} (h : w.grownBy w' row) : w.grownBy w'.drew row := ⟨h.os, h.tape, h.output, h.size, h.block⟩

theorem place_mod (a : Int) (n : Nat) (h : n ≤ 20000) : ∃ m : Nat, m ≤ 8 * n ∧ (wrap64 (a.tmod (8 * (n : Int) + 1) + (8 * (n : Int) + 1))).tmod (8 * (n : Int) + 1) = (m : Int) := by
  have hp : (0 : Int) < 8 * (n : Int) + 1 := by omega
  have h1 := Int.tmod_lt_of_pos a hp
  have h2 := Int.lt_tmod_of_pos a hp
  generalize a.tmod (8 * (n : Int) + 1) = x at *
  have hw : wrap64 (x + (8 * (n : Int) + 1)) = x + (8 * (n : Int) + 1) := IntWalk.wrap64_in _ ⟨by omega, by omega⟩
  rw [hw]
  have h3 : 0 ≤ x + (8 * (n : Int) + 1) := by omega
  generalize x + (8 * (n : Int) + 1) = y at *
  rw [Int.tmod_eq_emod_of_nonneg h3]
  have h4 := Int.emod_nonneg y (show 8 * (n : Int) + 1 ≠ 0 by omega)
  have h5 := Int.emod_lt_of_pos y hp
  exact ⟨(y % (8 * (n : Int) + 1)).toNat, by omega, by omega⟩

set_option maxRecDepth 100000 in
set_option maxHeartbeats 1000000 in
theorem sopen_main (A : Option Addr) (l : List UInt8) (c : Nat) (b : BitVec 32) (at_ : Int) (w : World) (hA : At w A (bs l)) (hc : l.length ≤ c) (h1 : l.length ≤ 20000) :
    Calls Try.prog 5 #[.slice A l.length c, .int .u32 (n32 b), .int .i64 at_] w fun e w' => e = .returned (.bool true) ∧ Below w.heap.size w w' := by
  have HA : Hid (At w A (bs l)) := hA
  clear hA
  go_enter Try.func5, Try.ntmps5
  go_wp2_with fail
  refine (seal_any A l _ c _ HA.out rfl hc (by omega)).mono ?_
  rintro e w1 ⟨v, rfl, hown, hb1⟩
  obtain ⟨g, cs, rfl, hcs, _, hg, hat⟩ := own_shape hown (by omega)
  have hlen : (Crc.seal_ l).length = l.length + 4 := by simp [Crc.seal_, Crc.tail4_length]
  have htk : (Crc.seal_ l).take ((Crc.seal_ l).length - 4) = l := by rw [hlen]; simp [Crc.seal_]
  have HO := Lib.hid hown
  clear hown
  go_wp2_with fail
  refine (open_yes _ (Crc.seal_ l) _ cs _ hat hlen.symm hcs (by omega) (Crc.okSealed_seal l)).mono ?_
  rintro e w2 ⟨vx, rfl, hownx, hb2⟩
  rw [htk, hlen, Nat.add_sub_cancel] at hownx
  have Hlen := Lib.hid hlen
  clear hat htk hlen
  have hb02 : Below w.heap.size w w2 := hb1.trans (hb2.mono hb1.size)
  obtain ⟨Ax, cx, rfl, _, _, hatx⟩ := own_at hownx
  have HO2 := Lib.hid (own_below HO.out hb2)
  have kx := convStr w2 Ax l.length cx l hatx rfl
  have kb := convStr w2 A l.length c l (HA.out.below hb02 (Nat.le_refl _)) rfl
  clear hownx hatx
  go_wp2_with fail
  obtain ⟨m, hm, hme⟩ := place_mod at_ l.length h1
  rw [hme, u32_or_1]
  generalize hB : b ||| 1#32 = B
  have hB0 : B.getLsbD 0 = true := by rw [← hB]; simp
  clear hB hme kx kb
  go_loopw [11] (fun i wr => ∃ (k : Nat) (l' : List UInt8), k ≤ 32 ∧ i = .int .i64 k ∧ Hid (l'.length = l.length + 4) ∧ Hid (wr.ownsRow w.heap.size 5 1 (.slice (some ⟨g, 0, none⟩) (l.length + 4) cs) (l.length + 4) (bs l')) ∧ Hid (w2.grownBy wr (some g)) ∧
      Hid (∀ t, t < 8 * (l.length + 4) → Crc.bit l' t = (Crc.bit (Crc.seal_ l) t ^^ (decide (m ≤ t ∧ t < m + k) && B.getLsbD (t - m))))) (fun i _ => 32 - (intOf i).toNat)
  case atStart => 
    refine ⟨0, Crc.seal_ l, by omega, rfl, Hlen.out, HO2.out, World.grownBy.refl w2 _, fun t _ => ?_⟩
    have : decide (m ≤ t ∧ t < m + 0) = false := decide_eq_false (by omega)
    rw [this]; simp
  case round =>
    obtain ⟨k, l', hk, rfl, hl', ho, hgr, hbit⟩ := hrel
    by_cases hlt : k < 32
    · cases hb : B.getLsbD k with
      | true =>
        have e1 : bits .and .u32 (n32 B / 2 ^ k) 1 = 1 := by rw [bit_at, hb]; rfl
        have Hb := Lib.hid hb
        clear hb
        obtain ⟨j, hj⟩ : ∃ j, j = (m + k) / 8 := ⟨_, rfl⟩
        obtain ⟨r, hr⟩ : ∃ r, r = (m + k) % 8 := ⟨_, rfl⟩
        have q1 : ((m : Int) + (k : Int)) / 8 = (j : Int) := by omega
        have q2 : ((m : Int) + (k : Int)) % 8 = (r : Int) := by omega
        have q3 : j < l.length + 4 := by omega
        have q4 : r < 8 := by omega
        have Hj := Lib.hid hj
        have Hr := Lib.hid hr
        clear hj hr
        have hcell := ho.out.cellAt j (by omega)
        have hfr := ho.out.frozenAt j
        have hget : (bs l')[j]? = some (B8 (l'[j]'(by rw [hl'.out]; exact q3))) := by
          rw [List.getElem?_eq_getElem (by rw [bs_length, hl'.out]; exact q3), bs_get]
        rw [hget] at hcell
        obtain ⟨z, hz⟩ : ∃ z, z = l'[j]'(by rw [hl'.out]; exact q3) := ⟨_, rfl⟩
        rw [← hz] at hcell
        have z0 := n8_0 z
        have z1 := n8_lt z
        have Hz := Lib.hid hz
        clear hget hz
        have q5 : IntKind.i64.wrap (((m : Int) + (k : Int)).tdiv 8) = (j : Int) := by
          rw [Int.tdiv_eq_ediv_of_nonneg (by omega), q1]
          exact IntWalk.i64_in _ (by omega)
        have q6 : ((m : Int) + (k : Int)).tmod 8 = (r : Int) := by
          rw [Int.tmod_eq_emod_of_nonneg (by omega), q2]
        have q7 : IntKind.i64.wrap (r : Int) = (r : Int) := IntWalk.i64_in _ (by omega)
        have q8 : (j : Int) < (l.length : Int) + 4 := by omega
        have q9 : (0 : Int) ≤ (r : Int) := by omega
        have q10 : (r : Int) < 8 := by omega
        go_wp2_with fail
        go_still_tail 13, (by kernel_rfl)
        change wpList _ _ _ _ _ wr.drew
        go_wp2_with fail
        go_roundw
        case rel =>
          have hst := ho.out.stored j (B8 (z ^^^ Crc.pw r))
          rw [pw_xor z r q4]
          have hzl : l'[j]? = some z := by rw [List.getElem?_eq_getElem (by rw [hl'.out]; exact q3)]; rw [Hz.out]
          refine ⟨k + 1, l'.set j (z ^^^ Crc.pw r), by omega, by go_num, by unfold Hid; rw [List.length_set]; exact hl'.out, ?_, grown_drew (grown_trans hgr.out hst.2), fun t ht => ?_⟩
          · have : bs (l'.set j (z ^^^ Crc.pw r)) = (bs l').set j (B8 (z ^^^ Crc.pw r)) := by unfold bs; rw [List.map_set]
            unfold Hid
            rw [this]
            exact hst.1.drew
          · rw [Crc.bit_flip l' j r z hzl q4, hbit.out t ht, Bool.xor_assoc]
            congr 1
            have hjr : 8 * j + r = m + k := by have := Hj.out; have := Hr.out; omega
            rw [hjr]
            by_cases ht1 : t = m + k
            · have e1 : t - m = k := by omega
              have e2 : decide (m ≤ t ∧ t < m + k) = false := decide_eq_false (by omega)
              have e3 : decide (m ≤ t ∧ t < m + (k + 1)) = true := decide_eq_true (by omega)
              rw [e1, Hb.out, e2, e3]; simp [ht1]
            · have : decide (m ≤ t ∧ t < m + k) = decide (m ≤ t ∧ t < m + (k + 1)) := by
                rw [Bool.eq_iff_iff]; simp; omega
              rw [this]; simp [ht1]
        case measure => simp [intOf]; omega
      | false =>
        have e1 : bits .and .u32 (n32 B / 2 ^ k) 1 = 0 := by rw [bit_at, hb]; rfl
        have Hb := Lib.hid hb
        clear hb
        go_wp2_with fail
        go_roundw
        case rel =>
          refine ⟨k + 1, l', by omega, by go_num, hl', ho, hgr, fun t ht => ?_⟩
          rw [hbit.out t ht]
          congr 1
          by_cases ht1 : t = m + k
          · have : t - m = k := by omega
            rw [this, Hb.out]; simp
          · have : decide (m ≤ t ∧ t < m + k) = decide (m ≤ t ∧ t < m + (k + 1)) := by
              rw [Bool.eq_iff_iff]; simp; omega
            rw [this]
        case measure => simp [intOf]; omega
    · have hk32 : k = 32 := by omega
      have hbr : Below w.heap.size w wr := hb02.grown hgr.out (by have := hb02.size; omega) (fun k' e => by cases e; exact hg)
      obtain ⟨g', c', hv, _, _, _, hat⟩ := own_shape ho.out (by omega)
      injection hv with hv1 hv2 hv3
      have hv1' : g' = g := by injection hv1 with h; injection h with h _; exact h.symm
      rw [hv1'] at hat
      have hbad : Crc.okSealed l' = false := by
        refine Crc.burst_told (Crc.seal_ l) l' (by rw [hl'.out, Hlen.out]) (Crc.okSealed_seal l) m 32 (fun i => B.getLsbD i) (by omega) (by rw [Hlen.out]; omega) ⟨0, by omega, hB0⟩ ?_
        intro t ht
        rw [Hlen.out] at ht
        rw [hbit.out t ht, hk32]
      clear hv1 hv2 hv3 hv1' hk32
      go_wp2_with fail
      refine (open_no _ l' _ cs _ hat hl'.out.symm hcs (by omega) hbad).mono ?_
      rintro e w5 ⟨rfl, hb5⟩
      have hb5' := hbr.trans (hb5.mono hbr.size)
      go_wp2_with fail
      refine (wakes1_any _).mono ?_
      rintro e w6 ⟨rfl, hb6⟩
      go_wp2_with fail
      go_ret
      exact ⟨rfl, hb5'.trans (hb6.mono hb5'.size)⟩

set_option maxRecDepth 100000 in
set_option maxHeartbeats 1000000 in
theorem sopen_great (A : Option Addr) (n c : Nat) (x y : Int) (w : World) (h : 20000 < n) :
    Calls Try.prog 5 #[.slice A n c, .int .u32 x, .int .i64 y] w fun e w' => e = .returned (.bool true) ∧ Below w.heap.size w w' := by
  go_enter Try.func5, Try.ntmps5
  go_wp2_with fail
  refine (wakes1_any _).mono ?_
  rintro e w5 ⟨rfl, hb5⟩
  go_wp2_with fail
  go_ret
  exact ⟨rfl, hb5⟩
end Go.Proofs.Ytdblcefamlhmfaa
