/- The walks of the reference of frames: number, Bytes. -/
import Derived.Test.YtcaejcdmkihmbaaFrameX
import Derived.Test.YtcaejcdmkihmbaaSumsRef
namespace Go.Proofs.Ytcaejcdmkihmbaa
open Go.RowKit

theorem u64_or_nat (a b : Nat) (ha : a < 2 ^ 62) (hb : b < 2 ^ 62) : bits .or .u64 (a : Int) (b : Int) = ((a ||| b : Nat) : Int) := by
  have hx : a ||| b < 2 ^ 62 := Nat.or_lt_two_pow ha hb
  have e : ∀ n : Nat, n < 2 ^ 62 → (BitVec.ofInt 64 (n : Int)).toNat = n := by
    intro n hn; rw [BitVec.ofInt_natCast, BitVec.toNat_ofNat]; omega
  show IntKind.u64.wrap ((BitVec.ofInt 64 (a : Int) ||| BitVec.ofInt 64 (b : Int)).toNat : Int) = _
  rw [BitVec.toNat_or, e a ha, e b hb]
  simp [IntKind.wrap, IntKind.bits, IntKind.signed]
  omega
theorem u64_more (l : List UInt8) (x : UInt8) (hk : l.length < 6) :
    bits .or .u64 ((Pk.num l : Int) * 256) (n8 x) = (Pk.num (x :: l) : Int) := by
  have hn := Pk.num_lt l
  have hp := pow8_le l.length hk
  have hx := x.toNat_lt
  have ew : (Pk.num l : Int) * 256 = ((Pk.num l * 256 : Nat) : Int) := by omega
  have e : n8 x = ((x.toNat : Nat) : Int) := rfl
  rw [ew, e, u64_or_nat _ _ (by omega) (by omega)]
  congr 1
  have h3 := Nat.shiftLeft_add_eq_or_of_lt (i := 8) (b := x.toNat) (by omega) (Pk.num l)
  rw [Nat.shiftLeft_eq, show (2 : Nat) ^ 8 = 256 by decide] at h3
  show _ = x.toNat + 256 * Pk.num l
  omega

set_option maxRecDepth 100000 in
set_option maxHeartbeats 1000000 in
theorem number_any (A : Option Addr) (l : List UInt8) (n c : Nat) (w : World) (hA : At w A (bs l)) (hn : n = l.length) (h6 : n ≤ 6) :
    Calls Try.prog 29 #[.slice A n c] w fun e w' => e = .returned (.int .u64 (Pk.num l)) ∧ w = w' := by
  have HA : Hid (At w A (bs l)) := hA
  have Hn := Lib.hid hn
  clear hA hn
  go_enter Try.func29, Try.ntmps29
  go_wp2_with fail
  go_loop [3, 4] (fun v k' => ∃ k : Nat, k ≤ n ∧ k' = .int .i64 ((n : Int) - 1 - k) ∧ v = .int .u64 (Pk.num (l.drop (n - k)))) (fun _ k' => (intOf k' + 1).toNat)
  case atStart => exact ⟨0, by omega, by simp, by rw [Nat.sub_zero, Hn.out]; simp [Pk.num]⟩
  case round =>
    obtain ⟨k, hk, rfl, rfl⟩ := hrel
    by_cases hlt : k < n
    · obtain ⟨b, off, rfl, hbl, hc⟩ := HA.out.get (k := n - 1 - k) (by rw [bs_length]; have := Hn.out; omega)
      rw [bs_get l (n - 1 - k) (by have := Hn.out; omega)] at hc
      obtain ⟨x, hx⟩ : ∃ x, x = l[n - 1 - k]'(by have := Hn.out; omega) := ⟨_, rfl⟩
      rw [← hx] at hc
      have Hx := Lib.hid hx
      have x0 := n8_0 x
      have x1 := n8_lt x
      clear hx
      obtain ⟨V, hV⟩ : ∃ V, V = Pk.num (l.drop (n - k)) := ⟨_, rfl⟩
      rw [← hV]
      have HV := Lib.hid hV
      have hv : V < 2 ^ 40 := by
        rw [hV]
        refine Nat.lt_of_lt_of_le (Pk.num_lt _) (pow8_le _ ?_)
        rw [List.length_drop]; have := Hn.out; omega
      have hm := u64_more (l.drop (n - k)) x (by rw [List.length_drop]; have := Hn.out; omega)
      rw [← hV] at hm
      have t3 : (n : Int) - 1 - (k : Int) < (n : Int) := by omega
      have t4 : (0 : Int) ≤ (n : Int) - 1 - (k : Int) := by omega
      have t5 : (n : Int) - 1 - (k : Int) = ((n - 1 - k : Nat) : Int) := by omega
      clear hV
      go_wp2
      refine ⟨⟨k + 1, by omega, by go_num, ?_⟩, by simp [intOf]; omega⟩
      have hd : l.drop (n - (k + 1)) = x :: l.drop (n - k) := by
        rw [show n - (k + 1) = n - 1 - k by omega, List.drop_eq_getElem_cons (by have := Hn.out; omega), ← Hx.out, show n - 1 - k + 1 = n - k by omega]
      rw [hd, ← hm]
    · have hkW : k = n := by omega
      subst hkW
      go_wp2
      go_ret
      refine ⟨?_, rfl⟩
      simp
end Go.Proofs.Ytcaejcdmkihmbaa
