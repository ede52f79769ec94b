/- Plain facts on numbers as bytes, the lowest first. No program here. -/
import GoSem.Core.Value
namespace Go.Proofs.Ytbleebiffpkcmaa
namespace Pk

def fits (n k : Int) : Bool := decide (1 ≤ k ∧ k ≤ 6 ∧ 0 ≤ n ∧ n < 2 ^ (8 * k).toNat)
def le (n w : Nat) : List UInt8 := (List.range w).map fun i => UInt8.ofNat (n / 2 ^ (8 * i))
def num : List UInt8 → Nat
  | [] => 0
  | b :: l => b.toNat + 256 * num l

theorem le_length (n w : Nat) : (le n w).length = w := by simp [le]
theorem le_succ (n w : Nat) : le n (w + 1) = le n w ++ [UInt8.ofNat (n / 2 ^ (8 * w))] := by simp [le, List.range_succ]
theorem num_append (a b : List UInt8) : num (a ++ b) = num a + num b * 2 ^ (8 * a.length) := by
  induction a with
  | nil => simp [num]
  | cons x a ih =>
    simp only [List.cons_append, num, ih, List.length_cons]
    rw [show 8 * (a.length + 1) = 8 * a.length + 8 by omega, Nat.pow_add, show (2 : Nat) ^ 8 = 256 by decide]
    rw [Nat.mul_add, Nat.add_assoc]
    congr 2
    rw [Nat.mul_comm 256 (num b * _), Nat.mul_assoc]
theorem num_snoc (a : List UInt8) (x : UInt8) : num (a ++ [x]) = num a + x.toNat * 2 ^ (8 * a.length) := by
  rw [num_append]; simp [num]
theorem num_lt (l : List UInt8) : num l < 2 ^ (8 * l.length) := by
  induction l with
  | nil => simp [num]
  | cons x l ih =>
    simp only [num, List.length_cons]
    rw [show 8 * (l.length + 1) = 8 * l.length + 8 by omega, Nat.pow_add, show (2 : Nat) ^ 8 = 256 by decide]
    have := x.toNat_lt
    omega
theorem num_le (n : Nat) : ∀ w, num (le n w) = n % 2 ^ (8 * w) := by
  intro w
  induction w with
  | zero => simp [le, num, Nat.mod_one]
  | succ w ih =>
    rw [le_succ, num_snoc, ih, le_length, UInt8.toNat_ofNat', show 8 * (w + 1) = 8 * w + 8 by omega, Nat.pow_add, show (2 : Nat) ^ 8 = 256 by decide, Nat.mod_mul]
    rw [Nat.mul_comm (2 ^ (8 * w))]
theorem num_le_fits (n w : Nat) (h : n < 2 ^ (8 * w)) : num (le n w) = n := by rw [num_le, Nat.mod_eq_of_lt h]
theorem le_cons (n w : Nat) : le n (w + 1) = UInt8.ofNat n :: le (n / 256) w := by
  simp only [le, List.range_succ_eq_map, List.map_cons, List.map_map]
  congr 1
  · simp
  · apply List.map_congr_left
    intro i _
    simp only [Function.comp]
    rw [show 8 * Nat.succ i = 8 + 8 * i by omega, Nat.pow_add, show (2 : Nat) ^ 8 = 256 by decide, Nat.div_div_eq_div_mul]
theorem le_num (l : List UInt8) : le (num l) l.length = l := by
  induction l with
  | nil => rfl
  | cons x l ih =>
    rw [List.length_cons, le_cons]
    have hx := x.toNat_lt
    have h1 : UInt8.ofNat (num (x :: l)) = x := by
      apply UInt8.toNat_inj.1
      rw [UInt8.toNat_ofNat']
      simp only [num]; omega
    have h2 : num (x :: l) / 256 = num l := by simp only [num]; omega
    rw [h1, h2, ih]
/-- what Put gives -/
def put (l : List UInt8) (n w : Int) : List UInt8 := if fits n w then l ++ le n.toNat w.toNat else []
def putE (n w : Int) : Int := if fits n w then 0 else 2
/-- what Get gives -/
def gotN (l : List UInt8) (i w : Int) : Int := if 1 ≤ w ∧ w ≤ 6 ∧ 0 ≤ i ∧ i + w ≤ l.length then num ((l.drop i.toNat).take w.toNat) else 0
def gotE (l : List UInt8) (i w : Int) : Int := if 1 ≤ w ∧ w ≤ 6 then (if 0 ≤ i ∧ i + w ≤ l.length then 0 else 40) else 2
/-- what ReadValues and Value give -/
def rvL (l : List UInt8) : List UInt8 := if l.length % 8 = 0 then l else []
def rvE (l : List UInt8) : Int := if l.length % 8 = 0 then 0 else 40
def vL (l : List UInt8) : List UInt8 := if l.length = 8 then l else List.replicate 8 0
def vE (l : List UInt8) : Int := if l.length = 8 then 0 else 2
theorem rvL_length (l : List UInt8) : (rvL l).length = (rvL l).length / 8 * 8 := by
  unfold rvL; split
  · omega
  · rfl
theorem rvL_le (l : List UInt8) : (rvL l).length ≤ l.length := by
  unfold rvL; split <;> simp
theorem vL_length (l : List UInt8) : (vL l).length = 8 := by
  unfold vL; split <;> simp_all
theorem eight_parts (l : List UInt8) (h : l.length = 8) : ∃ x0 x1 x2 x3 x4 x5 x6 x7, l = [x0, x1, x2, x3, x4, x5, x6, x7] := by
  match l, h with
  | [x0, x1, x2, x3, x4, x5, x6, x7], _ => exact ⟨x0, x1, x2, x3, x4, x5, x6, x7, rfl⟩
end Pk
end Go.Proofs.Ytbleebiffpkcmaa
