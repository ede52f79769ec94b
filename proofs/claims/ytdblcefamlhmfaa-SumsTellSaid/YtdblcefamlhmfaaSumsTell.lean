/- The walk of the law SumsTell. -/
import Derived.Test.YtdblcefamlhmfaaSumsD
import Derived.Test.YtdblcefamlhmfaaSumsRef
namespace Go.Proofs.Ytdblcefamlhmfaa
open Go.RowKit

def opened (l : List UInt8) : List UInt8 := if Crc.okSealed l then l.take (l.length - 4) else []

theorem open_any (A : Option Addr) (l : List UInt8) (n c : Nat) (w : World) (hA : At w A (bs l)) (hn : n = l.length) (hc : n ≤ c) (hb : n ≤ 900000) :
    Calls Try.prog 10 #[.slice A n c] w fun e w' => ∃ A' c', e = .returned (.tuple #[.slice A' (opened l).length c', .bool (Crc.okSealed l)]) ∧ At w' A' (bs (opened l)) ∧ Below w.heap.size w w' := by
  cases hok : Crc.okSealed l with
  | false =>
    refine (open_no A l n c w hA hn hc hb hok).mono ?_
    rintro e w' ⟨rfl, hb⟩
    have : opened l = [] := by unfold opened; rw [hok]; rfl
    rw [this]
    exact ⟨none, 0, rfl, At.nil, hb⟩
  | true =>
    refine (open_yes A l n c w hA hn hc hb hok).mono ?_
    rintro e w' ⟨v, rfl, hown, hb⟩
    have : opened l = l.take (l.length - 4) := by unfold opened; rw [hok]; rfl
    rw [this]
    obtain ⟨A', c', rfl, _, _, hat⟩ := own_at hown
    exact ⟨A', c', by simp, hat, hb⟩

theorem ropen_any (A : Option Addr) (l : List UInt8) (n c : Nat) (w : World) (hA : At w A (bs l)) (hn : n = l.length) (hc : n ≤ c) (hb : n ≤ 900000) :
    Calls Try.prog 11 #[.slice A n c] w fun e w' => ∃ A' c', e = .returned (.tuple #[.slice A' (opened l).length c', .bool (Crc.okSealed l)]) ∧ At w' A' (bs (opened l)) ∧ Below w.heap.size w w' := by
  cases hok : Crc.okSealed l with
  | false =>
    refine (ropen_no A l n c w hA hn hc hb hok).mono ?_
    rintro e w' ⟨rfl, hb⟩
    have : opened l = [] := by unfold opened; rw [hok]; rfl
    rw [this]
    exact ⟨none, 0, rfl, At.nil, hb⟩
  | true =>
    refine (ropen_yes A l n c w hA hn hc hb hok).mono ?_
    rintro e w' ⟨v, rfl, hown, hb⟩
    have : opened l = l.take (l.length - 4) := by unfold opened; rw [hok]; rfl
    rw [this]
    obtain ⟨A', c', rfl, _, _, hat⟩ := own_at hown
    exact ⟨A', c', by simp, hat, hb⟩

set_option maxRecDepth 100000 in
set_option maxHeartbeats 1000000 in
theorem tell_main (A : Option Addr) (l : List UInt8) (c : Nat) (s : BitVec 32) (w : World) (hA : At w A (bs l)) (hc : l.length ≤ c) (h1 : l.length ≤ 20000) :
    Calls Try.prog 4 #[.slice A l.length c, .int .u32 (n32 s)] w fun e w' => e = .returned (.bool true) ∧ Below w.heap.size w w' := by
  have HA : Hid (At w A (bs l)) := hA
  clear hA
  go_enter Try.func4, Try.ntmps4
  go_wp2_with fail
  refine (open_any A l _ c _ HA.out rfl hc (by omega)).mono ?_
  rintro e w1 ⟨A1, c1, rfl, hx, hb1⟩
  have HX := Lib.hid hx
  clear hx
  go_wp2_with fail
  refine (ropen_any A l _ c _ (HA.out.below hb1 (Nat.le_refl _)) rfl hc (by omega)).mono ?_
  rintro e w2 ⟨A2, c2, rfl, hy, hb2⟩
  have hb02 : Below w.heap.size w w2 := hb1.trans (hb2.mono hb1.size)
  have hX2 := HX.out.below hb2 (Nat.le_refl _)
  go_wp2_with fail
  have cx : ∀ w', Below w2.heap.size w2 w' → (convert 22 9 (.slice A1 (opened l).length c1)).run Try.prog w' = .ok (.string (str (opened l))) w' :=
    fun w' h => convStr w' A1 _ c1 (opened l) (hX2.below h (Nat.le_refl _)) rfl
  have cy : ∀ w', Below w2.heap.size w2 w' → (convert 22 9 (.slice A2 (opened l).length c2)).run Try.prog w' = .ok (.string (str (opened l))) w' :=
    fun w' h => convStr w' A2 _ c2 (opened l) (hy.below h (Nat.le_refl _)) rfl
  have HA2 : Hid (∀ w', Below w2.heap.size w2 w' → At w' A (bs l)) := fun w' h => HA.out.below (hb02.trans (h.mono hb02.size)) (Nat.le_refl _)
  clear hX2 hy
  refine region_plan (S := fun w' => Below w2.heap.size w2 w') [(true, 0), (true, 2), (false, 1), (false, 3), (true, 4), (true, 5), (true, 6), (true, 7), (true, 9), (true, 10), (false, 8), (false, 11), (true, 12), (true, 13), (true, 14), (true, 15), (true, 18), (false, 16), (true, 17), (false, 19), (true, 20), (true, 21), (true, 22), (true, 23), (true, 24), (true, 25), (true, 26), (true, 27), (true, 28), (true, 29), (true, 30), (true, 31), (true, 32), (true, 33), (true, 34), (true, 35), (false, 36), (true, 37), (true, 38)] (by kernel_rfl) (by kernel_rfl) (by kernel_rfl) rfl (Below.refl _ _).drew ?_
  simp only [planned_nil, planned_cons, nth_zero, nth_succ]
  iterate 2
    refine plan_still (v := ?_) (by rfl) (fun w' hS' => ?_) ?_
    rotate_left
    focus (go_simp <;> with_reducible rfl)
    try simp only [Act.put, List.setIfInBounds_toArray, List.set_cons_zero, List.set_cons_succ]
  refine plan_do (by rfl) (fun K hK => ?_)
  go_simp
  refine (sum_any A l _ c _ (HA2.out _ (Below.refl _ _).drew) rfl (by omega)).mono ?_
  rintro e w3 ⟨rfl, hb3⟩
  have hb3' : Below w2.heap.size w2 w3 := (Below.refl _ _).drew.trans hb3
  refine hK.out _ _ hb3' ?_
  clear hK K
  refine plan_do (by rfl) (fun K hK => ?_)
  go_simp
  refine (rsum_any A l _ c _ (HA2.out _ hb3') rfl (by omega)).mono ?_
  rintro e w4 ⟨rfl, rfl⟩
  refine hK.out _ _ hb3' ?_
  clear hK K
  iterate 6
    refine plan_still (v := ?_) (by rfl) (fun w' hS' => ?_) ?_
    rotate_left
    focus (go_simp <;> with_reducible rfl)
    try simp only [Act.put, List.setIfInBounds_toArray, List.set_cons_zero, List.set_cons_succ]
  refine plan_do (by rfl) (fun K hK => ?_)
  go_simp
  refine (join_any s A l _ c _ (HA2.out _ hb3') rfl (by omega)).mono ?_
  rintro e w4 ⟨rfl, hb4⟩
  have hb4' : Below w2.heap.size w2 w4 := hb3'.trans (hb4.mono hb3'.size)
  refine hK.out _ _ hb4' ?_
  clear hK K
  refine plan_do (by rfl) (fun K hK => ?_)
  go_simp
  refine (rjoin_any _ s A l _ c _ rfl (HA2.out _ hb4') rfl (by omega)).mono ?_
  rintro e w5 ⟨rfl, rfl⟩
  refine hK.out _ _ hb4' ?_
  clear hK K
  iterate 5
    refine plan_still (v := ?_) (by rfl) (fun w' hS' => ?_) ?_
    rotate_left
    focus (go_simp <;> with_reducible rfl)
    try simp only [Act.put, List.setIfInBounds_toArray, List.set_cons_zero, List.set_cons_succ]
  refine plan_turn (by rfl) (fun K hK => ?_)
  go_simp
  refine (seal_any A l _ c _ (HA2.out _ hb4') rfl hc (by omega)).mono ?_
  rintro e w5 ⟨v5, rfl, hown5, hb5⟩
  obtain ⟨A5, c5, rfl, _, _, hat5⟩ := own_at hown5
  have hb5' : Below w2.heap.size w2 w5 := hb4'.trans (hb5.mono hb4'.size)
  refine hK.out (fun w' => Below w5.heap.size w5 w') _ _ (fun w' h => hb5'.trans (h.mono hb5'.size)) (Below.refl _ _) ?_
  have cz : ∀ w', Below w5.heap.size w5 w' → (convert 22 9 (.slice A5 (l.length + 4) c5)).run Try.prog w' = .ok (.string (str (Crc.seal_ l))) w' :=
    fun w' h => convStr w' A5 _ c5 (Crc.seal_ l) (hat5.below h (Nat.le_refl _)) (by simp [Crc.seal_, Crc.tail4_length])
  clear hat5 hown5 hK K
  iterate 1
    refine plan_still (v := ?_) (by rfl) (fun w' hS' => ?_) ?_
    rotate_left
    focus (go_simp <;> with_reducible rfl)
    try simp only [Act.put, List.setIfInBounds_toArray, List.set_cons_zero, List.set_cons_succ]
  refine plan_turn (by rfl) (fun K hK => ?_)
  go_simp
  refine (rseal_any A l _ c _ (HA2.out _ hb5') rfl (by omega)).mono ?_
  rintro e w6 ⟨v6, rfl, hown6, hb6⟩
  obtain ⟨A6, c6, rfl, _, _, hat6⟩ := own_at hown6
  have hb6' : Below w2.heap.size w2 w6 := hb5'.trans (hb6.mono hb5'.size)
  refine hK.out (fun w' => Below w6.heap.size w6 w') _ _ (fun w' h => hb6.trans (h.mono hb6.size)) (Below.refl _ _) ?_
  have cz6 : ∀ w', Below w6.heap.size w6 w' → (convert 22 9 (.slice A6 (l.length + 4) c6)).run Try.prog w' = .ok (.string (str (Crc.seal_ l))) w' :=
    fun w' h => convStr w' A6 _ c6 (Crc.seal_ l) (hat6.below h (Nat.le_refl _)) (by simp [Crc.seal_, Crc.tail4_length])
  have cx6 : ∀ w', Below w6.heap.size w6 w' → (convert 22 9 (.slice A1 (opened l).length c1)).run Try.prog w' = .ok (.string (str (opened l))) w' :=
    fun w' h => cx w' (hb6'.trans (h.mono hb6'.size))
  have cy6 : ∀ w', Below w6.heap.size w6 w' → (convert 22 9 (.slice A2 (opened l).length c2)).run Try.prog w' = .ok (.string (str (opened l))) w' :=
    fun w' h => cy w' (hb6'.trans (h.mono hb6'.size))
  clear hat6 hown6 hK K cx cy cz
  iterate 16
    refine plan_still (v := ?_) (by rfl) (fun w' hS' => ?_) ?_
    rotate_left
    focus (go_simp <;> with_reducible rfl)
    try simp only [Act.put, List.setIfInBounds_toArray, List.set_cons_zero, List.set_cons_succ]
  refine plan_turn (by rfl) (fun K hK => ?_)
  go_simp
  refine (wakes1_any _).mono ?_
  rintro e w7 ⟨rfl, hb7⟩
  have hb7' : Below w2.heap.size w2 w7 := hb6'.trans (hb7.mono hb6'.size)
  refine hK.out (fun w' => Below w7.heap.size w7 w') _ _ (fun w' h => hb7.trans (h.mono hb7.size)) (Below.refl _ _) ?_
  clear hK K
  iterate 2
    refine plan_still (v := ?_) (by rfl) (fun w' hS' => ?_) ?_
    rotate_left
    focus (go_simp <;> with_reducible rfl)
    try simp only [Act.put, List.setIfInBounds_toArray, List.set_cons_zero, List.set_cons_succ]
  refine plan_nil ?_
  go_wp2_with fail
  go_ret
  exact ⟨rfl, hb02.trans (hb7'.mono hb02.size)⟩

set_option maxRecDepth 100000 in
set_option maxHeartbeats 1000000 in
theorem tell_great (A : Option Addr) (n c : Nat) (x : Int) (w : World) (h : 20000 < n) :
    Calls Try.prog 4 #[.slice A n c, .int .u32 x] w fun e w' => e = .returned (.bool true) ∧ Below w.heap.size w w' := by
  go_enter Try.func4, Try.ntmps4
  go_wp2_with fail
  refine (wakes1_any _).mono ?_
  rintro e w5 ⟨rfl, hb5⟩
  go_wp2_with fail
  go_ret
  exact ⟨rfl, hb5⟩
end Go.Proofs.Ytdblcefamlhmfaa
