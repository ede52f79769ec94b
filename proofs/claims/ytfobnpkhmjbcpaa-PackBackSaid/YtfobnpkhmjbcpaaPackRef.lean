/- The walks of the reference of package pack. -/
import Derived.Test.YtfobnpkhmjbcpaaPackA
namespace Go.Proofs.Ytfobnpkhmjbcpaa
open Go.RowKit

set_option maxRecDepth 100000 in
set_option maxHeartbeats 400000 in
theorem rbytes (A B : Option Addr) (l m : List UInt8) (na ca nb cb : Nat) (w : World) (hA : At w A (bs l)) (hB : At w B (bs m)) (hna : na = l.length) (hnb : nb = m.length) :
    Calls Try.prog 11 #[.slice A na ca, .slice B nb cb] w fun e w' => e = .returned (.bool (decide (l = m))) ∧ w = w' := by
  subst hna hnb
  have e1 := convStr w A l.length ca l hA rfl
  have e2 := convStr w B m.length cb m hB rfl
  clear hA hB
  go_enter Try.func11, Try.ntmps11
  go_wp2
  go_ret
  refine ⟨?_, rfl⟩
  rw [← str_beq]
  rfl

set_option maxRecDepth 100000 in
set_option maxHeartbeats 400000 in
theorem rfits (n k : Int) (w : World) :
    Calls Try.prog 13 #[.int .i64 n, .int .i64 k] w fun e w' => e = .returned (.bool (Pk.fits n k)) ∧ w = w' := by
  by_cases h1 : 1 ≤ k
  · by_cases h2 : k ≤ 6
    · by_cases h3 : 0 ≤ n
      · have ht : decide (n < wrap64 (2 ^ (8 * k).toNat)) = Pk.fits n k := by
          have e : (8 * k).toNat ≤ 48 := by omega
          have e2 : (2 : Int) ^ (8 * k).toNat = ((2 ^ (8 * k).toNat : Nat) : Int) := by simp
          have e3 : 2 ^ (8 * k).toNat ≤ 2 ^ 48 := Nat.pow_le_pow_right (by omega) e
          have e4 : wrap64 (2 ^ (8 * k).toNat) = 2 ^ (8 * k).toNat := by rw [e2]; generalize 2 ^ (8 * k).toNat = P at e3; simp only [wrap64]; omega
          rw [e4]
          unfold Pk.fits
          simp [h1, h2, h3]
        have Ht := Lib.hid ht
        clear ht
        go_enter Try.func13, Try.ntmps13
        go_wp2
        go_ret
        exact ⟨ret_eq (congrArg Value.bool Ht.out), rfl⟩
      · have ht : Pk.fits n k = false := by unfold Pk.fits; simp; omega
        have Ht := Lib.hid ht
        clear ht
        go_enter Try.func13, Try.ntmps13
        go_wp2
        go_ret
        exact ⟨ret_eq (congrArg Value.bool Ht.out.symm), rfl⟩
    · have ht : Pk.fits n k = false := by unfold Pk.fits; simp; omega
      have Ht := Lib.hid ht
      clear ht
      go_enter Try.func13, Try.ntmps13
      go_wp2
      go_ret
      exact ⟨ret_eq (congrArg Value.bool Ht.out.symm), rfl⟩
  · have ht : Pk.fits n k = false := by unfold Pk.fits; simp; omega
    have Ht := Lib.hid ht
    clear ht
    go_enter Try.func13, Try.ntmps13
    go_wp2
    go_ret
    exact ⟨ret_eq (congrArg Value.bool Ht.out.symm), rfl⟩

set_option maxRecDepth 100000 in
set_option maxHeartbeats 400000 in
theorem rput_no (A : Option Addr) (n c : Nat) (N W : Int) (w : World) (hf : Pk.fits N W = false) :
    Calls Try.prog 8 #[.slice A n c, .int .i64 N, .int .i64 W] w fun e w' => e = .returned (.tuple #[.slice none 0 0, .int .i64 2]) ∧ w = w' := by
  have Hf := Lib.hid hf
  clear hf
  go_enter Try.func8, Try.ntmps8
  go_wp2_with fail
  refine (rfits _ _ _).mono ?_
  rintro e w' ⟨rfl, rfl⟩
  rw [Hf.out]
  go_wp2_with fail
  go_ret2
  exact ⟨rfl, rfl⟩

set_option maxRecDepth 100000 in
set_option maxHeartbeats 400000 in
theorem rget_arg (A : Option Addr) (n c : Nat) (i W : Int) (w : World) (h : ¬ (1 ≤ W ∧ W ≤ 6)) :
    Calls Try.prog 10 #[.slice A n c, .int .i64 i, .int .i64 W] w fun e w' => e = .returned (.tuple #[.int .i64 0, .int .i64 2]) ∧ w = w' := by
  by_cases h1 : W < 1
  · clear h
    go_enter Try.func10, Try.ntmps10
    go_wp2
    go_ret2
    exact ⟨rfl, rfl⟩
  · have h2 : 6 < W := by omega
    clear h
    go_enter Try.func10, Try.ntmps10
    go_wp2
    go_ret2
    exact ⟨rfl, rfl⟩

set_option maxRecDepth 100000 in
set_option maxHeartbeats 400000 in
theorem rget_code (A : Option Addr) (n c : Nat) (i W : Int) (w : World) (h1 : 1 ≤ W) (h2 : W ≤ 6) (hb : n ≤ 100000000) (h : ¬ (0 ≤ i ∧ i + W ≤ n)) :
    Calls Try.prog 10 #[.slice A n c, .int .i64 i, .int .i64 W] w fun e w' => e = .returned (.tuple #[.int .i64 0, .int .i64 40]) ∧ w = w' := by
  by_cases h3 : i < 0
  · clear h
    go_enter Try.func10, Try.ntmps10
    go_wp2
    go_ret2
    exact ⟨rfl, rfl⟩
  · have h5 : (n : Int) - W < i := by omega
    clear h
    go_enter Try.func10, Try.ntmps10
    go_wp2
    go_ret2
    exact ⟨rfl, rfl⟩

theorem rget_bits (l : List UInt8) (x : UInt8) (hk : l.length < 6) :
    bits .or .i64 (wrap64 ((Pk.num l : Int) * 256)) (n8 x) = (Pk.num (x :: l) : Int) := by
  have hn := Pk.num_lt l
  have hp := pow8_le l.length hk
  have hx := x.toNat_lt
  have ew : wrap64 ((Pk.num l : Int) * 256) = ((Pk.num l * 256 : Nat) : Int) := by
    simp only [wrap64]; omega
  have e : n8 x = ((x.toNat : Nat) : Int) := rfl
  rw [ew, e, i64_or_nat _ _ (by omega) (by omega)]
  congr 1
  have h3 := Nat.shiftLeft_add_eq_or_of_lt (i := 8) (b := x.toNat) (by omega) (Pk.num l)
  rw [Nat.shiftLeft_eq, show (2 : Nat) ^ 8 = 256 by decide] at h3
  show _ = x.toNat + 256 * Pk.num l
  omega

set_option maxRecDepth 100000 in
set_option maxHeartbeats 1000000 in
theorem rget_yes (A : Option Addr) (l : List UInt8) (n c : Nat) (i W : Nat) (w : World) (hA : At w A (bs l)) (hn : n = l.length) (h1 : 1 ≤ W) (h2 : W ≤ 6) (hb : n ≤ 100000000) (hi : i + W ≤ l.length) :
    Calls Try.prog 10 #[.slice A n c, .int .i64 i, .int .i64 W] w fun e w' => e = .returned (.tuple #[.int .i64 (Pk.num ((l.drop i).take W)), .int .i64 0]) ∧ w = w' := by
  subst hn
  have HA : Hid (At w A (bs l)) := hA
  have t2 : ¬ ((l.length : Int) - (W : Int) < (i : Int)) := by omega
  clear hA
  go_enter Try.func10, Try.ntmps10
  go_wp2_with fail
  go_loop [8, 9] (fun v k' => ∃ k : Nat, k ≤ W ∧ k' = .int .i64 ((W : Int) - 1 - k) ∧ v = .int .i64 (Pk.num ((l.drop (i + (W - k))).take k))) (fun _ k' => (intOf k' + 1).toNat)
  case atStart => exact ⟨0, by omega, by simp, by simp [Pk.num]⟩
  case round =>
    obtain ⟨k, hk, rfl, rfl⟩ := hrel
    by_cases hlt : k < W
    · obtain ⟨b, off, rfl, hbl, hc⟩ := HA.out.get (k := i + (W - 1 - k)) (by rw [bs_length]; omega)
      rw [bs_get l (i + (W - 1 - k)) (by omega)] at hc
      obtain ⟨x, hx⟩ : ∃ x, x = l[i + (W - 1 - k)] := ⟨_, rfl⟩
      rw [← hx] at hc
      have Hx := Lib.hid hx
      have x0 := n8_0 x
      have x1 := n8_lt x
      clear hx
      have t3 : (i : Int) + ((W : Int) - 1 - (k : Int)) < (l.length : Int) := by omega
      have t4 : (0 : Int) ≤ (W : Int) - 1 - (k : Int) := by omega
      have t5 : (i : Int) + ((W : Int) - 1 - (k : Int)) = ((i + (W - 1 - k) : Nat) : Int) := by omega
      go_wp2
      have hlk : ((l.drop (i + (W - k))).take k).length = k := by simp; omega
      refine ⟨⟨k + 1, by omega, by go_num, ?_⟩, by simp [intOf]; omega⟩
      have hd : (l.drop (i + (W - (k + 1)))).take (k + 1) = x :: (l.drop (i + (W - k))).take k := by
        rw [show i + (W - (k + 1)) = i + (W - 1 - k) by omega, List.drop_eq_getElem_cons (by omega), List.take_succ_cons, ← Hx.out, show i + (W - 1 - k) + 1 = i + (W - k) by omega]
      rw [hd, rget_bits _ x (by omega)]
    · have hkW : k = W := by omega
      subst hkW
      go_wp2
      go_ret2
      refine ⟨?_, rfl⟩
      simp

theorem rput_byte (M : Nat) : bits .and .i64 (M : Int) 255 = n8 (UInt8.ofNat M) := by
  show IntKind.i64.wrap ((BitVec.ofInt 64 (M : Int) &&& BitVec.ofInt 64 255).toNat : Int) = _
  rw [BitVec.toNat_and, show (BitVec.ofInt 64 255).toNat = 255 by decide, BitVec.ofInt_natCast, BitVec.toNat_ofNat]
  rw [show (255 : Nat) = 2 ^ 8 - 1 by decide, Nat.and_two_pow_sub_one_eq_mod]
  unfold n8
  rw [UInt8.toNat_ofNat', IntKind.wrap_i64]
  omega

set_option maxRecDepth 100000 in
set_option maxHeartbeats 1000000 in
theorem rput_yes (A : Option Addr) (l : List UInt8) (n c : Nat) (N W : Nat) (w : World) (hA : At w A (bs l)) (hn : n = l.length) (hb : n ≤ 1000000) (h1 : 1 ≤ W) (h2 : W ≤ 6) (hN : N < 2 ^ (8 * W)) :
    Calls Try.prog 8 #[.slice A n c, .int .i64 N, .int .i64 W] w fun e w' => ∃ v, e = .returned (.tuple #[v, .int .i64 0]) ∧ w'.ownsRow w.heap.size 5 1 v (l.length + W) (bs (l ++ Pk.le N W)) ∧ Below w.heap.size w w' := by
  subst hn
  have HA : Hid (At w A (bs l)) := hA
  have Hf := Lib.hid (fits_nat N W h1 h2 hN)
  have HN := Lib.hid hN
  clear hA hN
  go_enter Try.func8, Try.ntmps8
  go_wp2_with fail
  refine (rfits _ _ _).mono ?_
  rintro e w' ⟨rfl, rfl⟩
  rw [Hf.out]
  have HE := Lib.hid (one_bs l)
  have HN0 := Lib.hid (World.ownsRow_nil w w.heap.size 5 1)
  go_wp2_with (refine wpList_app_own rfl (.tmp 14) (.tmp 15) bytesTyP rfl w.heap.size (.slice none 0 0) 0 [] rfl HN0.out A l.length c (bs l) rfl HA.out (by simp [bs_length]) HE.out (by unfold maxLen; omega) (by omega) (by omega) ?_; intro v2 w2 hown2 hg2 hat2)
  have hown : w2.ownsRow w.heap.size 5 1 v2 l.length (bs l) := by simpa using hown2
  have hb0 : Below w.heap.size w w2 := (Below.refl _ _).grown hg2 (Nat.le_refl _) (fun j hj => by simp [Value.ownBlock] at hj)
  clear hown2 hg2 hat2
  go_loopw [1, 8, 9] (fun x v i wr => ∃ k : Nat, k ≤ W ∧ i = .int .i64 k ∧ x = .int .i64 ((N / 2 ^ (8 * k) : Nat) : Int) ∧ Hid (wr.ownsRow w.heap.size 5 1 v (l.length + k) (bs (l ++ Pk.le N k))) ∧ Below w.heap.size w wr) (fun _ _ i _ => W - (intOf i).toNat)
  case atStart => exact ⟨0, by omega, rfl, by simp, by simpa [Pk.le, Hid] using hown, hb0⟩
  case round =>
    obtain ⟨k, hk, rfl, rfl, ho, hb⟩ := hrel
    by_cases hlt : k < W
    · obtain ⟨M, hM⟩ : ∃ M, M = N / 2 ^ (8 * k) := ⟨_, rfl⟩
      rw [← hM]
      have hbyte := rput_byte M
      have hbyte2 : n8 (UInt8.ofNat M) % 256 = n8 (UInt8.ofNat M) := by
        have h1 := n8_0 (UInt8.ofNat M)
        have h2 := n8_lt (UInt8.ofNat M)
        omega
      have HM := Lib.hid hM
      have hT : At (wr.alloc (.cells [B8 (UInt8.ofNat M)].toArray 5)) (some ⟨wr.heap.size, 0, none⟩) [B8 (UInt8.ofNat M)] := at_new wr _ _ _
      have HT := Lib.hid hT
      have HO := Lib.hid (ho.out.alloc (.cells [B8 (UInt8.ofNat M)].toArray 5))
      have hsz := hb.size
      clear hT hM
      go_wp2_with (refine wpList_app_own rfl (.tmp 22) (.tmp 26) bytesTyP rfl w.heap.size u8 (l.length + k) (bs (l ++ Pk.le N k)) rfl HO.out _ 1 1 _ rfl HT.out rfl (by intro u hu; simp at hu; subst hu; rfl) (by unfold maxLen; omega) (by omega) (by simp; omega) ?_; intro v2 w2 hown2 hg2 hat2)
      refine ⟨⟨k + 1, by omega, by go_num, ?_, ?_, (hb.alloc hsz _).grown hg2 (by simp; omega) (fun j hj => (HO.out.lt j hj).1)⟩, by simp [intOf]; omega⟩
      · rw [HM.out, show 8 * (k + 1) = 8 * k + 8 by omega, Nat.pow_add, ← Nat.div_div_eq_div_mul]
        simp
      · rw [Pk.le_succ, ← List.append_assoc, ← HM.out]
        exact own_bytes_more hown2
    · have hkW : k = W := by omega
      rw [hkW] at ho
      clear hkW
      go_wp2_with fail
      go_ret2
      exact ⟨_, rfl, ho.out, hb⟩

theorem put_all (A : Option Addr) (l : List UInt8) (n c : Nat) (N W : Int) (w : World) (hA : At w A (bs l)) (hn : n = l.length) (hb : n ≤ 1000000) :
    Calls Try.prog 7 #[.slice A n c, .int .i64 N, .int .i64 W] w fun e w' => ∃ v, e = .returned (.tuple #[v, .int .i64 (Pk.putE N W)]) ∧ w'.ownsRow w.heap.size 5 1 v (Pk.put l N W).length (bs (Pk.put l N W)) ∧ Below w.heap.size w w' := by
  by_cases hf : Pk.fits N W = true
  · obtain ⟨N', W', rfl, rfl, h1, h2, h3⟩ := fits_parts hf
    refine (put_yes A l n c N' W' w hA hn hb h1 h2 h3).mono ?_
    rintro e w' ⟨v, rfl, ho, hb⟩
    refine ⟨v, by simp [Pk.putE, hf], ?_, hb⟩
    have : Pk.put l (N' : Int) (W' : Int) = l ++ Pk.le N' W' := by simp [Pk.put, hf]
    rw [this, List.length_append, Pk.le_length]
    exact ho
  · have hf' : Pk.fits N W = false := by simpa using hf
    refine (put_no A n c N W w hf').mono ?_
    rintro e w' ⟨rfl, rfl⟩
    refine ⟨.slice none 0 0, by simp [Pk.putE, hf'], ?_, Below.refl _ _⟩
    have : Pk.put l N W = [] := by simp [Pk.put, hf']
    rw [this]
    exact World.ownsRow_nil _ _ _ _

theorem get_all (A : Option Addr) (l : List UInt8) (n c : Nat) (i W : Int) (w : World) (hA : At w A (bs l)) (hn : n = l.length) (hb : n ≤ 100000000) :
    Calls Try.prog 9 #[.slice A n c, .int .i64 i, .int .i64 W] w fun e w' => e = .returned (.tuple #[.int .i64 (Pk.gotN l i W), .int .i64 (Pk.gotE l i W)]) ∧ w = w' := by
  by_cases h1 : 1 ≤ W ∧ W ≤ 6
  · by_cases h2 : 0 ≤ i ∧ i + W ≤ l.length
    · obtain ⟨i', rfl⟩ := Int.eq_ofNat_of_zero_le h2.1
      obtain ⟨W', rfl⟩ := Int.eq_ofNat_of_zero_le (show 0 ≤ W by omega)
      have e1 : Pk.gotN l (i' : Int) (W' : Int) = Pk.num ((l.drop i').take W') := by
        unfold Pk.gotN; rw [if_pos ⟨h1.1, h1.2, h2.1, h2.2⟩]; rfl
      have e2 : Pk.gotE l (i' : Int) (W' : Int) = 0 := by
        unfold Pk.gotE; rw [if_pos h1, if_pos h2]
      rw [e1, e2]
      exact get_yes A l n c i' W' w hA hn (by omega) (by omega) hb (by omega)
    · have e1 : Pk.gotN l i W = 0 := by
        unfold Pk.gotN; rw [if_neg (fun h => h2 ⟨h.2.2.1, h.2.2.2⟩)]
      have e2 : Pk.gotE l i W = 40 := by
        unfold Pk.gotE; rw [if_pos h1, if_neg h2]
      rw [e1, e2]
      exact get_code A n c i W w h1.1 h1.2 hb (by rw [hn]; exact h2)
  · have e1 : Pk.gotN l i W = 0 := by
      unfold Pk.gotN; rw [if_neg (fun h => h1 ⟨h.1, h.2.1⟩)]
    have e2 : Pk.gotE l i W = 2 := by
      unfold Pk.gotE; rw [if_neg h1]
    rw [e1, e2]
    exact get_arg A n c i W w h1

theorem rput_all (A : Option Addr) (l : List UInt8) (n c : Nat) (N W : Int) (w : World) (hA : At w A (bs l)) (hn : n = l.length) (hb : n ≤ 1000000) :
    Calls Try.prog 8 #[.slice A n c, .int .i64 N, .int .i64 W] w fun e w' => ∃ v, e = .returned (.tuple #[v, .int .i64 (Pk.putE N W)]) ∧ w'.ownsRow w.heap.size 5 1 v (Pk.put l N W).length (bs (Pk.put l N W)) ∧ Below w.heap.size w w' := by
  by_cases hf : Pk.fits N W = true
  · obtain ⟨N', W', rfl, rfl, h1, h2, h3⟩ := fits_parts hf
    refine (rput_yes A l n c N' W' w hA hn hb h1 h2 h3).mono ?_
    rintro e w' ⟨v, rfl, ho, hb⟩
    refine ⟨v, by simp [Pk.putE, hf], ?_, hb⟩
    have : Pk.put l (N' : Int) (W' : Int) = l ++ Pk.le N' W' := by simp [Pk.put, hf]
    rw [this, List.length_append, Pk.le_length]
    exact ho
  · have hf' : Pk.fits N W = false := by simpa using hf
    refine (rput_no A n c N W w hf').mono ?_
    rintro e w' ⟨rfl, rfl⟩
    refine ⟨.slice none 0 0, by simp [Pk.putE, hf'], ?_, Below.refl _ _⟩
    have : Pk.put l N W = [] := by simp [Pk.put, hf']
    rw [this]
    exact World.ownsRow_nil _ _ _ _

theorem rget_all (A : Option Addr) (l : List UInt8) (n c : Nat) (i W : Int) (w : World) (hA : At w A (bs l)) (hn : n = l.length) (hb : n ≤ 100000000) :
    Calls Try.prog 10 #[.slice A n c, .int .i64 i, .int .i64 W] w fun e w' => e = .returned (.tuple #[.int .i64 (Pk.gotN l i W), .int .i64 (Pk.gotE l i W)]) ∧ w = w' := by
  by_cases h1 : 1 ≤ W ∧ W ≤ 6
  · by_cases h2 : 0 ≤ i ∧ i + W ≤ l.length
    · obtain ⟨i', rfl⟩ := Int.eq_ofNat_of_zero_le h2.1
      obtain ⟨W', rfl⟩ := Int.eq_ofNat_of_zero_le (show 0 ≤ W by omega)
      have e1 : Pk.gotN l (i' : Int) (W' : Int) = Pk.num ((l.drop i').take W') := by
        unfold Pk.gotN; rw [if_pos ⟨h1.1, h1.2, h2.1, h2.2⟩]; rfl
      have e2 : Pk.gotE l (i' : Int) (W' : Int) = 0 := by
        unfold Pk.gotE; rw [if_pos h1, if_pos h2]
      rw [e1, e2]
      exact rget_yes A l n c i' W' w hA hn (by omega) (by omega) hb (by omega)
    · have e1 : Pk.gotN l i W = 0 := by
        unfold Pk.gotN; rw [if_neg (fun h => h2 ⟨h.2.2.1, h.2.2.2⟩)]
      have e2 : Pk.gotE l i W = 40 := by
        unfold Pk.gotE; rw [if_pos h1, if_neg h2]
      rw [e1, e2]
      exact rget_code A n c i W w h1.1 h1.2 hb (by rw [hn]; exact h2)
  · have e1 : Pk.gotN l i W = 0 := by
      unfold Pk.gotN; rw [if_neg (fun h => h1 ⟨h.1, h.2.1⟩)]
    have e2 : Pk.gotE l i W = 2 := by
      unfold Pk.gotE; rw [if_neg h1]
    rw [e1, e2]
    exact rget_arg A n c i W w h1
end Go.Proofs.Ytfobnpkhmjbcpaa
