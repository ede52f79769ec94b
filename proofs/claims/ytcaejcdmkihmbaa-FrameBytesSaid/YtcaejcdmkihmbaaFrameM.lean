/- The walks of package frame: May; Cut refused. -/
import Derived.Test.YtcaejcdmkihmbaaProg
import Derived.Test.YtcaejcdmkihmbaaSumsC
import Derived.Test.YtcaejcdmkihmbaaMemBuild
import Derived.Test.YtcaejcdmkihmbaaMemField
import Derived.Laws.ResultCell
namespace Go.Proofs.Ytcaejcdmkihmbaa
open Go.RowKit

/-- a frame -/
structure Fr where
  seq : Int
  inc : Int
  part : Int
  of : Int
  mark : BitVec 32
  load : List UInt8

namespace Fr
def may (s i p o : Int) (n : Nat) : Bool := decide (1 ≤ s ∧ s ≤ 1099511627776 ∧ 0 ≤ i ∧ i ≤ 1048576 ∧ 1 ≤ o ∧ o ≤ 2 ∧ 0 ≤ p ∧ p < o ∧ (p = o - 1 → 1 ≤ n ∧ n ≤ 45) ∧ (p ≠ o - 1 → n = 45))
def ok (f : Fr) : Bool := may f.seq f.inc f.part f.of f.load.length
end Fr

/-- a frame's cells -/
def fc (s i p o : Int) (m : Int) (A : Option Addr) (n c : Nat) : List Value := [.int .i64 s, .int .i64 i, .int .i64 p, .int .i64 o, .int .u32 m, .slice A n c]
theorem fc_length (s i p o m : Int) (A : Option Addr) (n c : Nat) : (fc s i p o m A n c).length = 6 := rfl
theorem fc_one (s i p o m : Int) (A : Option Addr) (n c : Nat) : ∀ u ∈ fc s i p o m A n c, u.oneCell' = true := by
  intro u hu
  simp only [fc, List.mem_cons, List.not_mem_nil, or_false] at hu
  rcases hu with rfl | rfl | rfl | rfl | rfl | rfl <;> rfl

set_option maxRecDepth 100000 in
set_option maxHeartbeats 2000000 in
theorem fmay_any (s i p o m : Int) (A : Option Addr) (n c : Nat) (w : World) (hn : n ≤ 1000000) :
    Calls Try.prog 11 #[.agg #[.int .i64 s, .int .i64 i, .int .i64 p, .int .i64 o, .int .u32 m, .slice A n c]] w fun e w' => e = .returned (.bool (Fr.may s i p o n)) ∧ Below w.heap.size w w' := by
  have hb : Below w.heap.size w (w.alloc (.cells (fc s i p o m A n c).toArray 33)) := (Below.refl _ _).alloc (Nat.le_refl _) _
  have hw1 : IntKind.i64.wrap (o - 1) = o - 1 ∨ ¬ (1 ≤ o ∧ o ≤ 2) := by
    by_cases h : 1 ≤ o ∧ o ≤ 2
    · exact .inl (IntWalk.i64_in _ (by omega))
    · exact .inr h
  by_cases h0 : 1 ≤ s
  case neg =>
    clear hw1
    have hr : Fr.may s i p o n = false := by unfold Fr.may; rw [decide_eq_false]; omega
    rw [hr]
    clear hr
    go_enter Try.func11, Try.ntmps11
    go_wp2_with fail
    go_ret
    exact ⟨rfl, hb⟩
  by_cases h1 : s ≤ 1099511627776
  case neg =>
    clear hw1
    have hr : Fr.may s i p o n = false := by unfold Fr.may; rw [decide_eq_false]; omega
    rw [hr]
    clear hr
    go_enter Try.func11, Try.ntmps11
    go_wp2_with fail
    go_ret
    exact ⟨rfl, hb⟩
  by_cases h2 : 0 ≤ i
  case neg =>
    clear hw1
    have hr : Fr.may s i p o n = false := by unfold Fr.may; rw [decide_eq_false]; omega
    rw [hr]
    clear hr
    go_enter Try.func11, Try.ntmps11
    go_wp2_with fail
    go_ret
    exact ⟨rfl, hb⟩
  by_cases h3 : i ≤ 1048576
  case neg =>
    clear hw1
    have hr : Fr.may s i p o n = false := by unfold Fr.may; rw [decide_eq_false]; omega
    rw [hr]
    clear hr
    go_enter Try.func11, Try.ntmps11
    go_wp2_with fail
    go_ret
    exact ⟨rfl, hb⟩
  by_cases h4 : 1 ≤ o
  case neg =>
    clear hw1
    have hr : Fr.may s i p o n = false := by unfold Fr.may; rw [decide_eq_false]; omega
    rw [hr]
    clear hr
    go_enter Try.func11, Try.ntmps11
    go_wp2_with fail
    go_ret
    exact ⟨rfl, hb⟩
  by_cases h5 : o ≤ 2
  case neg =>
    clear hw1
    have hr : Fr.may s i p o n = false := by unfold Fr.may; rw [decide_eq_false]; omega
    rw [hr]
    clear hr
    go_enter Try.func11, Try.ntmps11
    go_wp2_with fail
    go_ret
    exact ⟨rfl, hb⟩
  by_cases h6 : 0 ≤ p
  case neg =>
    clear hw1
    have hr : Fr.may s i p o n = false := by unfold Fr.may; rw [decide_eq_false]; omega
    rw [hr]
    clear hr
    go_enter Try.func11, Try.ntmps11
    go_wp2_with fail
    go_ret
    exact ⟨rfl, hb⟩
  by_cases h7 : p < o
  case neg =>
    clear hw1
    have hr : Fr.may s i p o n = false := by unfold Fr.may; rw [decide_eq_false]; omega
    rw [hr]
    clear hr
    go_enter Try.func11, Try.ntmps11
    go_wp2_with fail
    go_ret
    exact ⟨rfl, hb⟩
  have hw : IntKind.i64.wrap (o - 1) = o - 1 := by rcases hw1 with h | h; exact h; omega
  clear hw1
  by_cases h8 : p = o - 1
  · have h8' : o = p + 1 := by omega
    subst h8'
    have hw2 : p + 1 - 1 = p := by omega
    rw [hw2] at hw
    clear h8
    by_cases h9 : 1 ≤ n
    · have h9' : (1 : Int) ≤ (n : Int) := by omega
      by_cases h10 : n ≤ 45
      · have h10' : (n : Int) ≤ 45 := by omega
        have hr : Fr.may s i p (p + 1) n = true := by unfold Fr.may; rw [decide_eq_true]; omega
        rw [hr]
        clear hr
        go_enter Try.func11, Try.ntmps11
        go_wp2_with fail
        go_ret
        exact ⟨rfl, hb⟩
      · have h10' : ¬ (n : Int) ≤ 45 := by omega
        have hr : Fr.may s i p (p + 1) n = false := by unfold Fr.may; rw [decide_eq_false]; omega
        rw [hr]
        clear hr
        go_enter Try.func11, Try.ntmps11
        go_wp2_with fail
        go_ret
        exact ⟨rfl, hb⟩
    · have h9' : ¬ (1 : Int) ≤ (n : Int) := by omega
      have hr : Fr.may s i p (p + 1) n = false := by unfold Fr.may; rw [decide_eq_false]; omega
      rw [hr]
      clear hr
      go_enter Try.func11, Try.ntmps11
      go_wp2_with fail
      go_ret
      exact ⟨rfl, hb⟩
  · by_cases h9 : n = 45
    · subst h9
      have hr : Fr.may s i p o 45 = true := by unfold Fr.may; rw [decide_eq_true]; omega
      rw [hr]
      clear hr
      go_enter Try.func11, Try.ntmps11
      go_wp2_with fail
      go_ret
      exact ⟨rfl, hb⟩
    · have h9' : ¬ (n : Int) = 45 := by omega
      have h9'' : ((n : Int) == 45) = false := by simpa using h9'
      have hr : Fr.may s i p o n = false := by unfold Fr.may; rw [decide_eq_false]; omega
      rw [hr]
      clear hr
      go_enter Try.func11, Try.ntmps11
      go_wp2_with fail
      go_ret
      exact ⟨rfl, hb⟩
end Go.Proofs.Ytcaejcdmkihmbaa
