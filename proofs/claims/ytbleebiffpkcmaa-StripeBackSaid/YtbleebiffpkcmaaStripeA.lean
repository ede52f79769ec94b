/- The walks of package stripe: all, Check, Change. -/
import Derived.Test.YtbleebiffpkcmaaProg
import Derived.Test.YtbleebiffpkcmaaMemApp
import Derived.Test.YtbleebiffpkcmaaRegion
import Derived.Test.YtbleebiffpkcmaaRowsAid
import Derived.Test.YtbleebiffpkcmaaMemField
import Derived.Test.YtbleebiffpkcmaaStripeFl
import Derived.Laws.ResultCell
import Derived.Laws.Rows
import Derived.Laws.Tables
namespace Go.Proofs.Ytbleebiffpkcmaa
open Go.RowKit

/-- integers as values -/
abbrev is (l : List Int) : List Value := l.map (.int .i64)
/-- a map's cells -/
def mp (V : Int) (of : List Int) : List Value := .int .i64 V :: is of
theorem mp_length (V : Int) (of : List Int) : (mp V of).length = of.length + 1 := by simp [mp]
theorem is_one (l : List Int) : ∀ u ∈ is l, u.oneCell' = true := by
  intro u hu
  obtain ⟨b, _, rfl⟩ := List.mem_map.1 hu
  rfl
theorem mp_one (V : Int) (of : List Int) : ∀ u ∈ mp V of, u.oneCell' = true := by
  intro u hu
  rcases List.mem_cons.1 hu with rfl | h
  · rfl
  · exact is_one of u h

namespace St
def okOf (of : List Int) : Bool := of.all fun o => decide (0 ≤ o ∧ o ≤ 4)
def ok (V : Int) (of : List Int) : Bool := decide (0 ≤ V ∧ V ≤ 1099511627776) && okOf of
end St

set_option maxRecDepth 100000 in
set_option maxHeartbeats 400000 in
theorem chk1_any (o : Int) (w : World) :
    Calls Try.prog 26 #[.int .i64 o] w fun e w' => e = .returned (.bool (decide (0 ≤ o ∧ o ≤ 4))) ∧ w = w' := by
  by_cases h1 : 0 ≤ o
  · by_cases h2 : o ≤ 4
    · have hr : decide (0 ≤ o ∧ o ≤ 4) = true := by simp [h1, h2]
      rw [hr]; clear hr
      go_enter Try.func26, Try.ntmps26
      go_wp2
      go_ret
      exact ⟨rfl, rfl⟩
    · have hr : decide (0 ≤ o ∧ o ≤ 4) = false := by simp; omega
      rw [hr]; clear hr
      go_enter Try.func26, Try.ntmps26
      go_wp2
      go_ret
      exact ⟨rfl, rfl⟩
  · have hr : decide (0 ≤ o ∧ o ≤ 4) = false := by simp; omega
    rw [hr]; clear hr
    go_enter Try.func26, Try.ntmps26
    go_wp2
    go_ret
    exact ⟨rfl, rfl⟩

set_option maxRecDepth 100000 in
set_option maxHeartbeats 1000000 in
theorem sall_any (A : Option Addr) (of : List Int) (n c : Nat) (w : World) (hA : At w A (is of)) (hn : n = of.length) (hb : n ≤ 100) :
    Calls Try.prog 25 #[.slice A n c, .func (.func 26) #[] #[]] w fun e w' => e = .returned (.bool (St.okOf of)) ∧ w = w' := by
  have HA : Hid (At w A (is of)) := hA
  have Hn := Lib.hid hn
  clear hA hn
  go_enter Try.func25, Try.ntmps25
  go_wp2_with fail
  go_loop [9] (fun i => ∃ k : Nat, k ≤ n ∧ i = .int .i64 k ∧ Hid (St.okOf (of.take k) = true)) (fun i => n - (intOf i).toNat)
  case atStart => exact ⟨0, by omega, rfl, rfl⟩
  case round =>
    obtain ⟨k, hk, rfl, hok⟩ := hrel
    by_cases hlt : k < n
    · obtain ⟨b, off, rfl, hbl, hc⟩ := HA.out.get (k := k) (by rw [List.length_map, ← Hn.out]; exact hlt)
      obtain ⟨o, ho⟩ : ∃ o, o = of[k]'(by rw [← Hn.out]; exact hlt) := ⟨_, rfl⟩
      rw [List.getElem_map, ← ho] at hc
      have Ho := Lib.hid ho
      clear ho
      go_wp2_with fail
      refine (chk1_any o _).mono ?_
      rintro e w3 ⟨rfl, hw3⟩
      subst hw3
      have hsp : of = of.take k ++ o :: of.drop (k + 1) := by
        rw [Ho.out, List.getElem_cons_drop, List.take_append_drop]
      have hsn : of.take (k + 1) = of.take k ++ [o] := by
        rw [Ho.out, List.take_succ_eq_append_getElem (by rw [← Hn.out]; exact hlt)]
      have Hsp := Lib.hid hsp
      have Hsn := Lib.hid hsn
      clear hsp hsn
      by_cases hg : 0 ≤ o ∧ o ≤ 4
      · rw [decide_eq_true hg]
        have Hg := Lib.hid hg
        clear hg
        go_wp2_with fail
        refine ⟨⟨k + 1, by omega, by go_num, ?_⟩, by simp [intOf]; omega⟩
        unfold Hid
        rw [Hsn.out]
        have h1 := hok.out
        have h2 := Hg.out
        unfold St.okOf at h1 ⊢
        rw [List.all_append, h1]
        simp [h2]
      · rw [decide_eq_false hg]
        have Hg := Lib.hid hg
        clear hg
        go_wp2_with fail
        go_ret
        refine ⟨ret_eq (congrArg Value.bool ?_), rfl⟩
        have h2 := Hg.out
        unfold St.okOf
        rw [Hsp.out, List.all_append, List.all_cons, decide_eq_false h2]
        simp
    · have hkn : k = n := by omega
      rw [hkn, List.take_of_length_le (by rw [Hn.out]; exact Nat.le_refl _)] at hok
      clear hkn
      go_wp2_with fail
      go_ret
      exact ⟨ret_eq (congrArg Value.bool hok.out.symm), rfl⟩

/-- a map in a box -/
abbrev Bx (w : World) (V : Int) (of : List Int) : World := w.alloc (.cells (mp V of).toArray 34)

theorem mp_at {w : World} {g : Nat} {V : Int} {of : List Int} (h : Blk w g 34 (mp V of)) : At w (some ⟨g, 1, none⟩) (is of) :=
  h.at_ 1 _ (fun j u hu => by rw [Nat.add_comm]; simpa [mp] using hu)

set_option maxRecDepth 100000 in
set_option maxHeartbeats 1000000 in
theorem check_any (V : Int) (of : List Int) (w : World) (ho : of.length = 8) :
    Calls Try.prog 15 #[.agg (mp V of).toArray] w fun e w' => e = .returned (.int .i64 (if St.ok V of then 0 else 2)) ∧ Below w.heap.size w w' := by
  have Ho := Lib.hid ho
  obtain ⟨w1, hw1⟩ : ∃ w1, w1 = Bx w V of := ⟨_, rfl⟩
  have hb01 : Below w.heap.size w w1 := by rw [hw1]; exact (Below.refl _ _).alloc (Nat.le_refl _) _
  have HB1 := Lib.hid (show Blk w1 w.heap.size 34 (mp V of) by rw [hw1]; exact Blk.new w 34 (mp V of))
  have Hw1 := Lib.hid hw1
  clear hw1 ho
  have c0 : (w.alloc (.cells (mp V of).toArray 34)).cell? ⟨w.heap.size, 0, none⟩ = some (.int .i64 V) := (Blk.new w 34 (mp V of)).cell 0
  by_cases h1 : V < 0
  · have hr : St.ok V of = false := by unfold St.ok; rw [decide_eq_false (by omega)]; rfl
    rw [hr]
    clear hr
    go_enter Try.func15, Try.ntmps15
    go_wp2_with fail
    go_ret
    exact ⟨rfl, (Below.refl _ _).alloc (Nat.le_refl _) _⟩
  · by_cases h2 : 1099511627776 < V
    · have hr : St.ok V of = false := by unfold St.ok; rw [decide_eq_false (by omega)]; rfl
      rw [hr]
      clear hr
      go_enter Try.func15, Try.ntmps15
      go_wp2_with fail
      go_ret
      exact ⟨rfl, (Below.refl _ _).alloc (Nat.le_refl _) _⟩
    · have hr : St.ok V of = St.okOf of := by unfold St.ok; rw [decide_eq_true (by omega)]; rfl
      rw [hr]
      clear hr
      rcases Bool.eq_false_or_eq_true (St.okOf of) with hok | hok
      all_goals
        rw [hok]
        have Hok := Lib.hid hok
        clear hok
        go_enter Try.func15, Try.ntmps15
        go_wp2_with fail
        change Calls _ _ _ (Bx w V of) _
        rw [← Hw1.out]
        refine (sall_any _ of 8 8 _ (mp_at HB1.out) Ho.out.symm (by omega)).mono ?_
        rintro e w2 ⟨rfl, hw2⟩
        subst hw2
        rw [Hok.out]
        go_wp2_with fail
        go_ret
        exact ⟨rfl, hb01⟩
end Go.Proofs.Ytbleebiffpkcmaa
