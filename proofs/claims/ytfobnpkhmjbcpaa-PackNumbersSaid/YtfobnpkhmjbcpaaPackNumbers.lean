/- The walk of the law PackNumbers. -/
import Derived.Test.YtfobnpkhmjbcpaaPackB
namespace Go.Proofs.Ytfobnpkhmjbcpaa
open Go.RowKit

set_option maxRecDepth 100000 in
set_option maxHeartbeats 1000000 in
theorem numbers_great (A : Option Addr) (n c : Nat) (N W I : Int) (w : World) (h : 5000 < n) :
    Calls Try.prog 3 #[.slice A n c, .int .i64 N, .int .i64 W, .int .i64 I] w fun e w' => e = .returned (.bool true) ∧ Below w.heap.size w w' := by
  go_enter Try.func3, Try.ntmps3
  go_wp2_with fail
  refine (wakes2_any _).mono ?_
  rintro e w1 ⟨rfl, hb1⟩
  go_wp2_with fail
  go_ret
  exact ⟨rfl, hb1⟩

set_option maxRecDepth 100000 in
set_option maxHeartbeats 1000000 in
theorem numbers_walk (A : Option Addr) (l : List UInt8) (c : Nat) (N W I : Int) (w : World) (hA : At w A (bs l)) (hb : l.length ≤ 5000) :
    Calls Try.prog 3 #[.slice A l.length c, .int .i64 N, .int .i64 W, .int .i64 I] w fun e w' => e = .returned (.bool true) ∧ Below w.heap.size w w' := by
  have HA : Hid (At w A (bs l)) := hA
  clear hA
  go_enter Try.func3, Try.ntmps3
  go_wp2_with fail
  refine (put_all A l _ c N W _ HA.out rfl (by omega)).mono ?_
  rintro e w1 ⟨v1, rfl, hown1, hb1⟩
  obtain ⟨A1, c1, rfl, _, _, hat1⟩ := own_at hown1
  clear hown1
  go_wp2_with fail
  refine (rput_all A l _ c N W _ (HA.out.below hb1 (Nat.le_refl _)) rfl (by omega)).mono ?_
  rintro e w2 ⟨v2, rfl, hown2, hb2⟩
  obtain ⟨A2, c2, rfl, _, _, hat2⟩ := own_at hown2
  have hb02 : Below w.heap.size w w2 := hb1.trans (hb2.mono hb1.size)
  have HA1 := Lib.hid (hat1.below hb2 (Nat.le_refl _))
  have HA2 := Lib.hid hat2
  have HA0 := Lib.hid (HA.out.below hb02 (Nat.le_refl _))
  clear hown2 hat1 hat2
  go_wp2_with fail
  refine (get_all A l _ c I W _ HA0.out rfl (by omega)).mono ?_
  rintro e w3 ⟨rfl, rfl⟩
  go_wp2_with fail
  refine (rget_all A l _ c I W _ HA0.out rfl (by omega)).mono ?_
  rintro e w3 ⟨rfl, rfl⟩
  go_wp2_with fail
  refine (rbytes A1 A2 _ _ _ c1 _ c2 _ HA1.out HA2.out rfl rfl).mono ?_
  rintro e w3 ⟨rfl, rfl⟩
  rw [decide_eq_true rfl]
  go_wp2_with fail
  refine (fits_any _ _ _).mono ?_
  rintro e w3 ⟨rfl, rfl⟩
  go_wp2_with fail
  refine (rfits _ _ _).mono ?_
  rintro e w3 ⟨rfl, rfl⟩
  have hfe : (Pk.fits N W == Pk.fits N W) = true := beq_self_eq_true _
  go_wp2_with fail
  refine (wakes2_any _).mono ?_
  rintro e w3 ⟨rfl, hb3⟩
  go_wp2_with fail
  go_ret
  exact ⟨rfl, hb02.trans (hb3.mono hb02.size)⟩
end Go.Proofs.Ytfobnpkhmjbcpaa
