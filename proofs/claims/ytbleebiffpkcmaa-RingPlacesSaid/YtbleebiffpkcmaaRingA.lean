/- The walks of package ring: within, May, of, Used, Free, Has, Place. -/
import Derived.Test.YtbleebiffpkcmaaProg
import Derived.Test.YtbleebiffpkcmaaMemApp
import Derived.Test.YtbleebiffpkcmaaRegion
import Derived.Test.YtbleebiffpkcmaaMemField
import Derived.Test.YtbleebiffpkcmaaRowsAid
import Derived.Laws.ResultCell
import Derived.Laws.Rows
import Derived.Laws.Tables
namespace Go.Proofs.Ytbleebiffpkcmaa
open Go.RowKit

namespace Rg
def within (n a b : Int) : Bool := decide (a ≤ n ∧ n ≤ b)
def may (t n : Int) : Bool := decide ((1 ≤ t ∧ t ≤ 1099511627776) ∧ t ≤ n ∧ n ≤ t + 24)
def used (t n : Int) : Int := if may t n then n - t else 0
def free (t n : Int) : Int := if may t n then 24 - (n - t) else 0
def has (t n s : Int) : Bool := may t n && within s t (n - 1)
theorem may_parts {t n : Int} (h : may t n = true) : 1 ≤ t ∧ t ≤ 1099511627776 ∧ t ≤ n ∧ n ≤ t + 24 := by
  unfold may at h
  simp only [decide_eq_true_eq] at h
  omega
end Rg

set_option maxRecDepth 100000 in
set_option maxHeartbeats 400000 in
theorem within_any (n a b : Int) (w : World) :
    Calls Try.prog 21 #[.int .i64 n, .int .i64 a, .int .i64 b] w fun e w' => e = .returned (.bool (Rg.within n a b)) ∧ w = w' := by
  by_cases h1 : a ≤ n
  · by_cases h2 : n ≤ b
    · have hr : Rg.within n a b = true := by unfold Rg.within; simp [h1, h2]
      rw [hr]; clear hr
      go_enter Try.func21, Try.ntmps21
      go_wp2
      go_ret
      exact ⟨rfl, rfl⟩
    · have hr : Rg.within n a b = false := by unfold Rg.within; simp [h2]
      rw [hr]; clear hr
      go_enter Try.func21, Try.ntmps21
      go_wp2
      go_ret
      exact ⟨rfl, rfl⟩
  · have hr : Rg.within n a b = false := by unfold Rg.within; simp [h1]
    rw [hr]; clear hr
    go_enter Try.func21, Try.ntmps21
    go_wp2
    go_ret
    exact ⟨rfl, rfl⟩

set_option maxRecDepth 100000 in
set_option maxHeartbeats 400000 in
theorem may_any (t n : Int) (w : World) :
    Calls Try.prog 6 #[.agg #[.int .i64 t, .int .i64 n]] w fun e w' => e = .returned (.bool (Rg.may t n)) ∧ Below w.heap.size w w' := by
  have hb0 : Below w.heap.size w (w.alloc (.cells #[.int .i64 t, .int .i64 n] 23)) := (Below.refl _ _).alloc (Nat.le_refl _) _
  by_cases h1 : 1 ≤ t ∧ t ≤ 1099511627776
  · have hr : Rg.may t n = Rg.within n t (t + 24) := by unfold Rg.may Rg.within; simp [h1]
    have hw : Rg.within t 1 1099511627776 = true := by unfold Rg.within; simp [h1]
    have Hw := Lib.hid hw
    rw [hr]
    have q1 : IntKind.i64.wrap (t + 24) = t + 24 := IntWalk.i64_in _ (by omega)
    clear hr hw h1
    go_enter Try.func6, Try.ntmps6
    go_wp2_with fail
    refine (within_any _ _ _ _).mono ?_
    rintro e w1 ⟨rfl, rfl⟩
    rw [Hw.out]
    go_wp2_with fail
    refine (within_any _ _ _ _).mono ?_
    rintro e w1 ⟨rfl, rfl⟩
    go_wp2_with fail
    go_ret
    exact ⟨rfl, hb0⟩
  · have hw : Rg.within t 1 1099511627776 = false := by unfold Rg.within; simp; omega
    have hr : Rg.may t n = false := by unfold Rg.may; simp only [h1, false_and, decide_false]
    have Hw := Lib.hid hw
    rw [hr]
    clear hr hw h1
    go_enter Try.func6, Try.ntmps6
    go_wp2_with fail
    refine (within_any _ _ _ _).mono ?_
    rintro e w1 ⟨rfl, rfl⟩
    rw [Hw.out]
    go_wp2_with fail
    go_ret
    exact ⟨rfl, hb0⟩

theorem one2 (a b : Int) : Hid ((#[.int .i64 a, .int .i64 b] : Array Value).all (·.oneCell') = true) := by
  unfold Hid; simp [Value.oneCell']

/-- two integers as a struct -/
abbrev P2 (a b : Int) : List Value := [.int .i64 a, .int .i64 b]

set_option maxRecDepth 100000 in
set_option maxHeartbeats 400000 in
theorem of_any (t n : Int) (w : World) :
    Calls Try.prog 22 #[.agg #[.int .i64 t, .int .i64 n]] w fun e w' => e = .returned (.agg #[.int .i64 (Rg.used t n), .int .i64 (Rg.free t n)]) ∧ Below w.heap.size w w' := by
  have bl := fun (w : World) (x y : Int) => run_build (P := Try.prog) w 59 #[(0, .int .i64 x), (1, .int .i64 y)] #[.int .i64 x, .int .i64 y] (by kernel_rfl)
  have bl0 := fun (w : World) => run_build (P := Try.prog) w 59 #[] #[.int .i64 0, .int .i64 0] (by kernel_rfl)
  have hs : (Try.prog.info? 59).map (·.size) = some 2 := by kernel_rfl
  have Hs := Lib.hid hs
  obtain ⟨w1, hw1⟩ : ∃ w1, w1 = (w.alloc (.cells (P2 t n).toArray 23)).alloc (.cells (P2 0 0).toArray 59) := ⟨_, rfl⟩
  have hB1 : Blk w1 w.heap.size 23 (P2 t n) := by rw [hw1]; exact (Blk.new w 23 (P2 t n)).alloc _
  have hB2 : Blk w1 (w.heap.size + 1) 59 (P2 0 0) := by
    have := Blk.new (w.alloc (.cells (P2 t n).toArray 23)) 59 (P2 0 0)
    rw [World.size_alloc] at this
    rw [hw1]; exact this
  have hb01 : Below w.heap.size w w1 := by rw [hw1]; exact ((Below.refl _ _).alloc (Nat.le_refl _) _).alloc (by simp) _
  have HB1 := Lib.hid hB1
  have HB2 := Lib.hid hB2
  have hsz : w1.heap.size = w.heap.size + 2 := by rw [hw1]; simp
  have Hsz := Lib.hid hsz
  have Hw1 := Lib.hid hw1
  clear hs hB1 hB2 hw1 hsz
  by_cases h1 : Rg.may t n = true
  · obtain ⟨q1, q2, q3, q4⟩ := Rg.may_parts h1
    have e1 : Rg.used t n = n - t := by unfold Rg.used; rw [if_pos h1]
    have e2 : Rg.free t n = 24 - (n - t) := by unfold Rg.free; rw [if_pos h1]
    have H1 := Lib.hid h1
    rw [e1, e2]
    have q2' : t ≤ 2000000000000 := by omega
    clear h1 e1 e2 q2
    go_enter Try.func22, Try.ntmps22
    go_wp2_with fail
    change Calls _ _ _ ((w.alloc (.cells (P2 t n).toArray 23)).alloc (.cells (P2 0 0).toArray 59)) _
    rw [← Hw1.out]
    refine (may_any t n _).mono ?_
    rintro e w2 ⟨rfl, hb12⟩
    rw [H1.out]
    have hK1 := HB1.out.below hb12 HB1.out.lt
    have HK2 := Lib.hid (HB2.out.below hb12 HB2.out.lt)
    have c0 : w2.cell? ⟨w.heap.size, 0, none⟩ = some (.int .i64 t) := hK1.cell 0
    have c1 : w2.cell? ⟨w.heap.size, 1, none⟩ = some (.int .i64 n) := hK1.cell 1
    have hb02 : Below w.heap.size w w2 := hb01.trans (hb12.mono hb01.size)
    clear hK1
    have H2 := one2 (n - t) (24 - (n - t))
    go_wp2_with (refine wpList_store_row rfl _ (.tmp 2) (.tmp 16) rfl (w.heap.size + 1) #[.int .i64 (n - t), .int .i64 (24 - (n - t))] rfl rfl 59 #[.int .i64 0, .int .i64 0] HK2.out Hs.out rfl H2.out ?_)
    refine bodyPost_ret (v := .agg #[.int .i64 (n - t), .int .i64 (24 - (n - t))]) (results_cell_row rfl _ _ (w.heap.size + 1) 59 _ (0, 0) _ rfl (HK2.out.row (P2 (n - t) (24 - (n - t)))) Try.underlying59 rfl Hs.out) rfl ⟨rfl, below_setRow hb02 (by omega) _⟩
  · have e0 : Rg.may t n = false := by simpa using h1
    have e1 : Rg.used t n = 0 := by unfold Rg.used; rw [if_neg h1]
    have e2 : Rg.free t n = 0 := by unfold Rg.free; rw [if_neg h1]
    have H1 := Lib.hid e0
    rw [e1, e2]
    clear h1 e1 e2 e0
    go_enter Try.func22, Try.ntmps22
    go_wp2_with fail
    change Calls _ _ _ ((w.alloc (.cells (P2 t n).toArray 23)).alloc (.cells (P2 0 0).toArray 59)) _
    rw [← Hw1.out]
    refine (may_any t n _).mono ?_
    rintro e w2 ⟨rfl, hb12⟩
    rw [H1.out]
    have HK2 := Lib.hid (HB2.out.below hb12 HB2.out.lt)
    have hb02 : Below w.heap.size w w2 := hb01.trans (hb12.mono hb01.size)
    have H2 := one2 0 0
    go_wp2_with (refine wpList_store_row rfl _ (.tmp 2) (.tmp 7) rfl (w.heap.size + 1) #[.int .i64 0, .int .i64 0] rfl rfl 59 #[.int .i64 0, .int .i64 0] HK2.out Hs.out rfl H2.out ?_)
    refine bodyPost_ret (v := .agg #[.int .i64 0, .int .i64 0]) (results_cell_row rfl _ _ (w.heap.size + 1) 59 _ (0, 0) _ rfl (HK2.out.row (P2 0 0)) Try.underlying59 rfl Hs.out) rfl ⟨rfl, below_setRow hb02 (by omega) _⟩

set_option maxRecDepth 100000 in
set_option maxHeartbeats 400000 in
theorem used_any (t n : Int) (w : World) :
    Calls Try.prog 7 #[.agg #[.int .i64 t, .int .i64 n]] w fun e w' => e = .returned (.int .i64 (Rg.used t n)) ∧ Below w.heap.size w w' := by
  have hb0 : Below w.heap.size w (w.alloc (.cells #[.int .i64 t, .int .i64 n] 23)) := (Below.refl _ _).alloc (Nat.le_refl _) _
  have fl := fun (w : World) (a b : Int) => run_field (P := Try.prog) w 59 #[.int .i64 a, .int .i64 b] 0 (.int .i64 a) rfl
  go_enter Try.func7, Try.ntmps7
  go_wp2_with fail
  refine (of_any t n _).mono ?_
  rintro e w2 ⟨rfl, hb2⟩
  go_wp2_with fail
  go_ret
  exact ⟨rfl, hb0.trans (hb2.mono hb0.size)⟩

set_option maxRecDepth 100000 in
set_option maxHeartbeats 400000 in
theorem free_any (t n : Int) (w : World) :
    Calls Try.prog 8 #[.agg #[.int .i64 t, .int .i64 n]] w fun e w' => e = .returned (.int .i64 (Rg.free t n)) ∧ Below w.heap.size w w' := by
  have hb0 : Below w.heap.size w (w.alloc (.cells #[.int .i64 t, .int .i64 n] 23)) := (Below.refl _ _).alloc (Nat.le_refl _) _
  have fl := fun (w : World) (a b : Int) => run_field (P := Try.prog) w 59 #[.int .i64 a, .int .i64 b] 1 (.int .i64 b) rfl
  go_enter Try.func8, Try.ntmps8
  go_wp2_with fail
  refine (of_any t n _).mono ?_
  rintro e w2 ⟨rfl, hb2⟩
  go_wp2_with fail
  go_ret
  exact ⟨rfl, hb0.trans (hb2.mono hb0.size)⟩

set_option maxRecDepth 100000 in
set_option maxHeartbeats 400000 in
theorem has_any (t n s : Int) (w : World) :
    Calls Try.prog 11 #[.agg #[.int .i64 t, .int .i64 n], .int .i64 s] w fun e w' => e = .returned (.bool (Rg.has t n s)) ∧ Below w.heap.size w w' := by
  obtain ⟨w1, hw1⟩ : ∃ w1, w1 = w.alloc (.cells (P2 t n).toArray 23) := ⟨_, rfl⟩
  have hb01 : Below w.heap.size w w1 := by rw [hw1]; exact (Below.refl _ _).alloc (Nat.le_refl _) _
  have HB1 := Lib.hid (show Blk w1 w.heap.size 23 (P2 t n) by rw [hw1]; exact Blk.new w 23 (P2 t n))
  have Hw1 := Lib.hid hw1
  clear hw1
  by_cases h1 : Rg.may t n = true
  · obtain ⟨q1, q2, q3, q4⟩ := Rg.may_parts h1
    have e1 : Rg.has t n s = Rg.within s t (n - 1) := by unfold Rg.has; rw [h1]; rfl
    have H1 := Lib.hid h1
    have q5 : IntKind.i64.wrap (n - 1) = n - 1 := IntWalk.i64_in _ (by omega)
    have q6 : -9000000000000000000 ≤ n - 1 := by omega
    have q7 : n - 1 ≤ 9000000000000000000 := by omega
    rw [e1]
    clear h1 e1 q2
    go_enter Try.func11, Try.ntmps11
    go_wp2_with fail
    change Calls _ _ _ (w.alloc (.cells (P2 t n).toArray 23)) _
    rw [← Hw1.out]
    refine (may_any t n _).mono ?_
    rintro e w2 ⟨rfl, hb12⟩
    rw [H1.out]
    have hK1 := HB1.out.below hb12 HB1.out.lt
    have c0 : w2.cell? ⟨w.heap.size, 0, none⟩ = some (.int .i64 t) := hK1.cell 0
    have c1 : w2.cell? ⟨w.heap.size, 1, none⟩ = some (.int .i64 n) := hK1.cell 1
    clear hK1
    go_wp2_with fail
    refine (within_any _ _ _ _).mono ?_
    rintro e w3 ⟨rfl, rfl⟩
    go_wp2_with fail
    go_ret
    exact ⟨rfl, hb01.trans (hb12.mono hb01.size)⟩
  · have e0 : Rg.may t n = false := by simpa using h1
    have e1 : Rg.has t n s = false := by unfold Rg.has; rw [e0]; rfl
    have H1 := Lib.hid e0
    rw [e1]
    clear h1 e1 e0
    go_enter Try.func11, Try.ntmps11
    go_wp2_with fail
    change Calls _ _ _ (w.alloc (.cells (P2 t n).toArray 23)) _
    rw [← Hw1.out]
    refine (may_any t n _).mono ?_
    rintro e w2 ⟨rfl, hb12⟩
    rw [H1.out]
    go_wp2_with fail
    go_ret
    exact ⟨rfl, hb01.trans (hb12.mono hb01.size)⟩

set_option maxRecDepth 100000 in
set_option maxHeartbeats 400000 in
theorem place_yes (s : Int) (w : World) (h1 : 1 ≤ s) (h2 : s ≤ 1099511627776) :
    Calls Try.prog 10 #[.int .i64 s] w fun e w' => e = .returned (.tuple #[.int .i64 (2 + s % 24), .int .i64 0]) ∧ w = w' := by
  have hw : Rg.within s 1 1099511627776 = true := by unfold Rg.within; simp [h1, h2]
  have Hw := Lib.hid hw
  clear hw h2
  go_enter Try.func10, Try.ntmps10
  go_wp2_with fail
  refine (within_any _ _ _ _).mono ?_
  rintro e w1 ⟨rfl, rfl⟩
  rw [Hw.out]
  go_wp2_with fail
  go_ret2
  exact ⟨rfl, rfl⟩

set_option maxRecDepth 100000 in
set_option maxHeartbeats 400000 in
theorem place_no (s : Int) (w : World) (h : ¬ (1 ≤ s ∧ s ≤ 1099511627776)) :
    Calls Try.prog 10 #[.int .i64 s] w fun e w' => e = .returned (.tuple #[.int .i64 0, .int .i64 2]) ∧ w = w' := by
  have hw : Rg.within s 1 1099511627776 = false := by unfold Rg.within; simp; omega
  have Hw := Lib.hid hw
  clear hw h
  go_enter Try.func10, Try.ntmps10
  go_wp2_with fail
  refine (within_any _ _ _ _).mono ?_
  rintro e w1 ⟨rfl, rfl⟩
  rw [Hw.out]
  go_wp2_with fail
  go_ret2
  exact ⟨rfl, rfl⟩
end Go.Proofs.Ytbleebiffpkcmaa
