/- The walk of the law SumsPieces. -/
import Derived.Test.YtdblcefamlhmfaaSumsD
namespace Go.Proofs.Ytdblcefamlhmfaa
open Go.RowKit

set_option maxRecDepth 100000 in
set_option maxHeartbeats 1000000 in
theorem pieces_main (A : Option Addr) (l : List UInt8) (c : Nat) (A2 : Option Addr) (zs : List Int) (n2 c2 : Nat) (w : World) (hA : At w A (bs l)) (hc : l.length ≤ c) (hA2 : At w A2 (zs.map (Value.int .i64))) (hn2 : zs.length = n2)
    (hwf : ∀ n ∈ zs, (Lit.int .i64 n).wf = true) (h1 : l.length ≤ 20000) (h2 : n2 ≤ 100) :
    Calls Try.prog 3 #[.slice A l.length c, .slice A2 n2 c2] w fun e w' => e = .returned (.bool true) ∧ Below w.heap.size w w' := by
  have t1 : decide ((20000 : Int) < (l.length : Int)) = false := by simp; omega
  have t2 : decide ((100 : Int) < (n2 : Int)) = false := by simp; omega
  have HA : Hid (At w A (bs l)) := hA
  have HA2 : Hid (At w A2 (zs.map (Value.int .i64))) := hA2
  have Hn2 := Lib.hid hn2
  have Hwf := Lib.hid hwf
  clear hA hA2 hn2 hwf
  go_enter Try.func3, Try.ntmps3
  go_wp2_with fail
  go_loopw [5, 6, 21] (fun s t i wr => ∃ k m : Nat, k ≤ n2 ∧ m ≤ l.length ∧ i = .int .i64 k ∧ t = .int .i64 m ∧ s = .int .u32 (n32 (Crc.join 0#32 (l.take m))) ∧ Below w.heap.size w wr) (fun _ _ i _ => n2 - (intOf i).toNat)
  case atStart => exact ⟨0, 0, by omega, by omega, rfl, rfl, by rw [List.take_zero, Crc.join_nil]; rfl, Below.refl _ _⟩
  case round =>
    obtain ⟨k, m, hk, hm, rfl, rfl, rfl, hb⟩ := hrel
    by_cases hlt : k < n2
    · obtain ⟨b2, off2, rfl, hbl2, hcell⟩ := HA2.out.get (k := k) (by rw [List.length_map, Hn2.out]; exact hlt)
      obtain ⟨x, hx⟩ : ∃ x, x = zs[k]'(by rw [Hn2.out]; exact hlt) := ⟨_, rfl⟩
      have hcx : wr.cell? ⟨b2, off2 + k, none⟩ = some (.int .i64 x) := by
        rw [hb.cell (p := ⟨b2, off2 + k, none⟩) hbl2, hcell, hx]; simp
      have Hx := Lib.hid hx
      clear hx hcell
      obtain ⟨y, hy1, hy2, hmin⟩ : ∃ y : Nat, m ≤ y ∧ y ≤ l.length ∧ ((x ≤ (m : Int) ∧ y ≤ m) ∨ ((l.length : Int) ≤ x ∧ (m : Int) < x ∧ l.length ≤ y) ∨ (x = (y : Int) ∧ m < y ∧ y < l.length)) := by
        by_cases c1 : x ≤ (m : Int)
        · exact ⟨m, Nat.le_refl _, hm, .inl ⟨c1, Nat.le_refl _⟩⟩
        · by_cases c2 : (l.length : Int) ≤ x
          · exact ⟨l.length, hm, Nat.le_refl _, .inr (.inl ⟨c2, by omega, Nat.le_refl _⟩)⟩
          · exact ⟨x.toNat, by omega, by omega, .inr (.inr ⟨by omega, by omega, by omega⟩)⟩
      have hpre : At wr (Option.map (fun x => x.add m) A) (bs ((l.drop m).take (y - m))) := by
        have := (HA.out.below hb (Nat.le_refl _)).cut m (y - m)
        unfold bs at this ⊢
        rwa [← List.map_drop, ← List.map_take] at this
      have hlen : ((l.drop m).take (y - m)).length = y - m := by simp; omega
      have hpre0 : c ≤ m → At wr A (bs ((l.drop m).take (y - m))) := fun hcm => by
        have : (l.drop m).take (y - m) = [] := List.eq_nil_of_length_eq_zero (by omega)
        rw [this]; exact At.nil
      have hfin : Crc.join 0#32 (l.take y) = Crc.join (Crc.join 0#32 (l.take m)) ((l.drop m).take (y - m)) := by
        rw [← Crc.join_append]
        congr 1
        rw [List.take_drop]
        have : m + (y - m) = y := by omega
        rw [this]
        have h := List.take_append_drop m (l.take y)
        rw [List.take_take, Nat.min_eq_left hy1] at h
        exact h.symm
      generalize (l.drop m).take (y - m) = pc at hpre hpre0 hlen hfin
      have Hp := Lib.hid hpre
      have Hp0 := Lib.hid hpre0
      have Hl := Lib.hid hlen
      have Hf := Lib.hid hfin
      clear hpre hpre0 hlen hfin
      by_cases hcm : c ≤ m
      all_goals rcases hmin with ⟨h, h'⟩ | ⟨h, h', h''⟩ | ⟨h, h', h''⟩
      all_goals
        go_wp2_with fail
        all_goals
          refine (join_any _ _ pc _ _ _ (by first | exact Hp0.out hcm | exact Hp.out) (by have h9 := Hl.out; omega) (by omega)).mono ?_
          rintro e w3 ⟨rfl, hb3⟩
          go_wp2_with fail
          go_roundw
          case rel => exact ⟨k + 1, y, by omega, by omega, by go_num, by go_num, by rw [Hf.out], hb.trans (hb3.mono hb.size)⟩
          case measure => simp [intOf]; omega
    · have hrest : At wr (Option.map (fun x => x.add m) A) (bs (l.drop m)) := by
        have := (HA.out.below hb (Nat.le_refl _)).cut m (l.length - m)
        unfold bs at this ⊢
        rwa [← List.map_drop, List.take_of_length_le (by simp)] at this
      have hrest0 : c ≤ m → At wr A (bs (l.drop m)) := fun hcm => by
        rw [List.drop_of_length_le (by omega)]; exact At.nil
      have hlen : (l.drop m).length = l.length - m := by simp
      have hfin : Crc.join 0#32 l = Crc.join (Crc.join 0#32 (l.take m)) (l.drop m) := by
        rw [← Crc.join_append, List.take_append_drop]
      generalize l.drop m = pc at hrest hrest0 hlen hfin
      have Hp := Lib.hid hrest
      have Hp0 := Lib.hid hrest0
      have Hl := Lib.hid hlen
      have Hf := Lib.hid hfin
      clear hrest hrest0 hlen hfin
      by_cases hcm : c ≤ m
      all_goals
        go_wp2_with fail
        refine (join_any _ _ pc _ _ _ (by first | exact Hp0.out hcm | exact Hp.out) (by rw [Hl.out]) (by omega)).mono ?_
        rintro e w3 ⟨rfl, hb3⟩
        have hb3' := hb.trans (hb3.mono hb.size)
        go_wp2_with fail
        refine (sum_any _ l _ _ _ (HA.out.below hb3' (Nat.le_refl _)) rfl (by omega)).mono ?_
        rintro e w4 ⟨rfl, hb4⟩
        have hb4' := hb3'.trans (hb4.mono hb3'.size)
        rw [← Hf.out]
        have htest : (n32 (Crc.join 0#32 l) == n32 (Crc.sum l)) = true := by rw [beq_iff_eq]; rfl
        go_wp2_with fail
        refine (wakes1_any _).mono ?_
        rintro e w5 ⟨rfl, hb5⟩
        go_wp2_with fail
        go_ret
        exact ⟨rfl, hb4'.trans (hb5.mono hb4'.size)⟩

set_option maxRecDepth 100000 in
set_option maxHeartbeats 1000000 in
theorem pieces_great (A : Option Addr) (n c : Nat) (A2 : Option Addr) (n2 c2 : Nat) (w : World) (h : 20000 < n ∨ 100 < n2) :
    Calls Try.prog 3 #[.slice A n c, .slice A2 n2 c2] w fun e w' => e = .returned (.bool true) ∧ Below w.heap.size w w' := by
  rcases Nat.lt_or_ge 20000 n with h1 | h1
  all_goals
    go_enter Try.func3, Try.ntmps3
    go_wp2_with fail
    refine (wakes1_any _).mono ?_
    rintro e w5 ⟨rfl, hb5⟩
    go_wp2_with fail
    go_ret
    exact ⟨rfl, hb5⟩
end Go.Proofs.Ytdblcefamlhmfaa
