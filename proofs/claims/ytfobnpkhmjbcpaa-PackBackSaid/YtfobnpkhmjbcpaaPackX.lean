/- The walk of the layer-2 law's compare of rows of blocks. -/
import Derived.Test.YtfobnpkhmjbcpaaPackW
import Derived.Test.YtfobnpkhmjbcpaaMemEq
namespace Go.Proofs.Ytfobnpkhmjbcpaa
open Go.RowKit

theorem at_eight {w : World} {A : Option Addr} {l : List UInt8} {n k : Nat} (hA : At w A (bs l)) (hl : l.length = n * 8) (hk : k < n) :
    ∃ b off, A = some ⟨b, off, none⟩ ∧ b < w.heap.size ∧ ∃ x0 x1 x2 x3 x4 x5 x6 x7 : UInt8, (l.drop (k * 8)).take 8 = [x0, x1, x2, x3, x4, x5, x6, x7] ∧
      w.cell? ⟨b, off + k * 8, none⟩ = some (B8 x0) ∧ w.cell? ⟨b, off + k * 8 + 1, none⟩ = some (B8 x1) ∧ w.cell? ⟨b, off + k * 8 + 2, none⟩ = some (B8 x2) ∧ w.cell? ⟨b, off + k * 8 + 3, none⟩ = some (B8 x3) ∧
      w.cell? ⟨b, off + k * 8 + 4, none⟩ = some (B8 x4) ∧ w.cell? ⟨b, off + k * 8 + 5, none⟩ = some (B8 x5) ∧ w.cell? ⟨b, off + k * 8 + 6, none⟩ = some (B8 x6) ∧ w.cell? ⟨b, off + k * 8 + 7, none⟩ = some (B8 x7) := by
  obtain ⟨b, off, e, hlt, hc⟩ := hA.all (by rw [bs_length]; omega)
  refine ⟨b, off, e, hlt, l[k * 8], l[k * 8 + 1], l[k * 8 + 2], l[k * 8 + 3], l[k * 8 + 4], l[k * 8 + 5], l[k * 8 + 6], l[k * 8 + 7], ?_, ?_⟩
  · apply List.ext_getElem
    · simp; omega
    · intro i h1 h2
      simp only [List.length_cons, List.length_nil] at h2
      rw [List.getElem_take, List.getElem_drop]
      match i, h2 with
      | 0, _ => rfl
      | 1, _ => rfl
      | 2, _ => rfl
      | 3, _ => rfl
      | 4, _ => rfl
      | 5, _ => rfl
      | 6, _ => rfl
      | 7, _ => rfl
  · have h : ∀ j (hj : k * 8 + j < l.length), w.cell? ⟨b, off + k * 8 + j, none⟩ = some (B8 l[k * 8 + j]) := by
      intro j hj
      rw [Nat.add_assoc]
      exact hc _ _ (by rw [List.getElem?_eq_getElem (by rw [bs_length]; exact hj), bs_get _ _ hj])
    exact ⟨h 0 (by omega), h 1 (by omega), h 2 (by omega), h 3 (by omega), h 4 (by omega), h 5 (by omega), h 6 (by omega), h 7 (by omega)⟩

set_option maxRecDepth 100000 in
set_option maxHeartbeats 1000000 in
theorem values_any (A B : Option Addr) (l m : List UInt8) (na ca nb cb : Nat) (w : World) (hA : At w A (bs l)) (hB : At w B (bs m)) (hl : l.length = na * 8) (hm : m.length = nb * 8) (hna : na ≤ 2000) :
    Calls Try.prog 20 #[.slice A na ca, .slice B nb cb] w fun e w' => e = .returned (.bool (decide (l = m))) ∧ Below w.heap.size w w' := by
  by_cases hn : na = nb
  · subst hn
    have HA : Hid (At w A (bs l)) := hA
    have HB : Hid (At w B (bs m)) := hB
    have Hl := Lib.hid hl
    have Hm := Lib.hid hm
    clear hA hB hl hm
    go_enter Try.func20, Try.ntmps20
    go_wp2_with fail
    go_loopw [5] (fun i wr => ∃ k : Nat, k ≤ na ∧ i = .int .i64 k ∧ Hid (l.take (k * 8) = m.take (k * 8)) ∧ Below w.heap.size w wr) (fun i _ => na - (intOf i).toNat)
    case atStart => exact ⟨0, by omega, rfl, by simp [Hid], Below.refl _ _⟩
    case round =>
      obtain ⟨k, hk, rfl, he, hb⟩ := hrel
      by_cases hlt : k < na
      · obtain ⟨b, off, rfl, hbl, x0, x1, x2, x3, x4, x5, x6, x7, hx, c0, c1, c2, c3, c4, c5, c6, c7⟩ := at_eight (HA.out.below hb (Nat.le_refl _)) Hl.out hlt
        obtain ⟨b', off', rfl, hbl', y0, y1, y2, y3, y4, y5, y6, y7, hy, d0, d1, d2, d3, d4, d5, d6, d7⟩ := at_eight (HB.out.below hb (Nat.le_refl _)) Hm.out hlt
        have heq : ∀ w', (Op.equalIn 10000 36 (.agg #[B8 x0, B8 x1, B8 x2, B8 x3, B8 x4, B8 x5, B8 x6, B8 x7]) (.agg #[B8 y0, B8 y1, B8 y2, B8 y3, B8 y4, B8 y5, B8 y6, B8 y7])).run Try.prog w' = .ok (decide ((l.drop (k * 8)).take 8 = (m.drop (k * 8)).take 8)) w' := by
          intro w'
          rw [hx, hy]
          exact eq_rows w' Try.underlying36 Try.underlying5 (by kernel_rfl) [x0, x1, x2, x3, x4, x5, x6, x7] [y0, y1, y2, y3, y4, y5, y6, y7] rfl rfl
        have hgd : Try.prog.eqGuardType Try.prog.depth 36 = false := by kernel_rfl
        clear hx hy
        have htk : ∀ z : List UInt8, z.take ((k + 1) * 8) = z.take (k * 8) ++ (z.drop (k * 8)).take 8 := fun z => by rw [show (k + 1) * 8 = k * 8 + 8 by omega, List.take_add]
        have Htk := Lib.hid htk
        clear htk
        by_cases hd : (l.drop (k * 8)).take 8 = (m.drop (k * 8)).take 8
        · rw [decide_eq_true hd] at heq
          have Hd := Lib.hid hd
          clear hd
          go_wp2_with fail
          go_quiet (fail)
          go_wp2_with fail
          go_roundw
          case rel =>
            refine ⟨k + 1, by omega, by go_num, ?_, below_dn hb _⟩
            unfold Hid
            rw [Htk.out, Htk.out, he.out, Hd.out]
          case measure => simp [intOf]; omega
        · rw [decide_eq_false hd] at heq
          have Hd := Lib.hid hd
          clear hd
          go_wp2_with fail
          go_quiet (fail)
          go_wp2_with fail
          go_ret
          have hne : ¬ l = m := fun h => Hd.out (by rw [h])
          exact ⟨ret_eq (congrArg Value.bool (decide_eq_false hne).symm), below_dn hb _⟩
      · have hkn : k = na := by omega
        rw [hkn, List.take_of_length_le (by rw [Hl.out]; exact Nat.le_refl _), List.take_of_length_le (by rw [Hm.out]; exact Nat.le_refl _)] at he
        clear hkn
        go_wp2_with fail
        go_ret
        exact ⟨ret_eq (congrArg Value.bool (decide_eq_true he.out).symm), hb⟩
  · have hne : ¬ l = m := fun h => hn (by rw [h, hm] at hl; omega)
    have Hne := Lib.hid hne
    have hn' : ¬ ((na : Int) = (nb : Int)) := by omega
    clear hne hA hB hl hm hn
    go_enter Try.func20, Try.ntmps20
    go_wp2_with fail
    go_ret
    exact ⟨ret_eq (congrArg Value.bool (decide_eq_false Hne.out).symm), Below.refl _ _⟩

theorem readvals_all (A : Option Addr) (l : List UInt8) (n c : Nat) (w : World) (hA : At w A (bs l)) (hn : n = l.length) (hc : n ≤ c) (hb : n ≤ 8000) :
    Calls Try.prog 14 #[.slice A n c] w fun e w' => ∃ v, e = .returned (.tuple #[v, .int .i64 (Pk.rvE l)]) ∧ w'.ownsRow w.heap.size 36 8 v ((Pk.rvL l).length / 8) (bs (Pk.rvL l)) ∧ Below w.heap.size w w' := by
  by_cases h : l.length % 8 = 0
  · have e1 : Pk.rvE l = 0 := by unfold Pk.rvE; rw [if_pos h]
    have e2 : Pk.rvL l = l := by unfold Pk.rvL; rw [if_pos h]
    rw [e1, e2]
    exact readvals_yes A l n c (l.length / 8) w hA hn (by omega) hc (by omega)
  · have e1 : Pk.rvE l = 40 := by unfold Pk.rvE; rw [if_neg h]
    have e2 : Pk.rvL l = [] := by unfold Pk.rvL; rw [if_neg h]
    rw [e1, e2]
    refine (readvals_no A n c w (by omega) (by omega)).mono ?_
    rintro e w' ⟨rfl, rfl⟩
    exact ⟨_, rfl, World.ownsRow_nil _ _ _ _, Below.refl _ _⟩

theorem value_all (A : Option Addr) (l : List UInt8) (n c : Nat) (w : World) (hA : At w A (bs l)) (hn : n = l.length) :
    Calls Try.prog 16 #[.slice A n c] w fun e w' => e = .returned (.tuple #[.agg (bs (Pk.vL l)).toArray, .int .i64 (Pk.vE l)]) ∧ Below w.heap.size w w' := by
  by_cases h : l.length = 8
  · have e1 : Pk.vE l = 0 := by unfold Pk.vE; rw [if_pos h]
    have e2 : Pk.vL l = l := by unfold Pk.vL; rw [if_pos h]
    rw [e1, e2]
    exact value_yes A l n c w hA (by omega) h
  · have e1 : Pk.vE l = 2 := by unfold Pk.vE; rw [if_neg h]
    have e2 : bs (Pk.vL l) = zrow 8 := by unfold Pk.vL; rw [if_neg h]; rfl
    rw [e1, e2]
    exact value_no A n c w (by omega)

theorem rreadvals_all (A : Option Addr) (l : List UInt8) (n c : Nat) (w : World) (hA : At w A (bs l)) (hn : n = l.length) (hc : n ≤ c) (hb : n ≤ 8000) :
    Calls Try.prog 15 #[.slice A n c] w fun e w' => ∃ v, e = .returned (.tuple #[v, .int .i64 (Pk.rvE l)]) ∧ w'.ownsRow w.heap.size 36 8 v ((Pk.rvL l).length / 8) (bs (Pk.rvL l)) ∧ Below w.heap.size w w' := by
  by_cases h : l.length % 8 = 0
  · have e1 : Pk.rvE l = 0 := by unfold Pk.rvE; rw [if_pos h]
    have e2 : Pk.rvL l = l := by unfold Pk.rvL; rw [if_pos h]
    rw [e1, e2]
    exact rreadvals_yes A l n c (l.length / 8) w hA hn (by omega) hc (by omega)
  · have e1 : Pk.rvE l = 40 := by unfold Pk.rvE; rw [if_neg h]
    have e2 : Pk.rvL l = [] := by unfold Pk.rvL; rw [if_neg h]
    rw [e1, e2]
    refine (rreadvals_no A n c w (by omega) (by omega)).mono ?_
    rintro e w' ⟨rfl, rfl⟩
    exact ⟨_, rfl, World.ownsRow_nil _ _ _ _, Below.refl _ _⟩

theorem rvalue_all (A : Option Addr) (l : List UInt8) (n c : Nat) (w : World) (hA : At w A (bs l)) (hn : n = l.length) :
    Calls Try.prog 17 #[.slice A n c] w fun e w' => e = .returned (.tuple #[.agg (bs (Pk.vL l)).toArray, .int .i64 (Pk.vE l)]) ∧ Below w.heap.size w w' := by
  by_cases h : l.length = 8
  · have e1 : Pk.vE l = 0 := by unfold Pk.vE; rw [if_pos h]
    have e2 : Pk.vL l = l := by unfold Pk.vL; rw [if_pos h]
    rw [e1, e2]
    exact rvalue_yes A l n c w hA (by omega) h
  · have e1 : Pk.vE l = 2 := by unfold Pk.vE; rw [if_neg h]
    have e2 : bs (Pk.vL l) = zrow 8 := by unfold Pk.vL; rw [if_neg h]; rfl
    rw [e1, e2]
    exact rvalue_no A n c w (by omega)
end Go.Proofs.Ytfobnpkhmjbcpaa
