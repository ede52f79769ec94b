/- The walks of package frame: Cut. -/
import Derived.Test.YtcaejcdmkihmbaaFrameM
namespace Go.Proofs.Ytcaejcdmkihmbaa
open Go.RowKit

/-- may a record be cut? -/
def Fr.cutOk (n : Nat) (seq inc : Int) : Bool := decide (1 ≤ n ∧ n ≤ 90 ∧ 1 ≤ seq ∧ 0 ≤ inc ∧ inc ≤ 1048576 ∧ seq + (((n + 44) / 45 : Nat) : Int) - 1 ≤ 1099511627776)

set_option maxRecDepth 100000 in
set_option maxHeartbeats 2000000 in
theorem cut_no (A : Option Addr) (n c : Nat) (seq inc : Int) (w : World) (hn : n ≤ 1000) (hno : Fr.cutOk n seq inc = false) (hs1 : -9223372036854775808 ≤ seq) (hs2 : seq ≤ 9223372036854775807) :
    Calls Try.prog 8 #[.slice A n c, .int .i64 seq, .int .i64 inc] w fun e w' => ∃ x : Int, e = .returned (.tuple #[.slice none 0 0, .int .i64 x]) ∧ x ≠ 0 ∧ w = w' := by
  unfold Fr.cutOk at hno
  rw [decide_eq_false_iff_not] at hno
  obtain ⟨q, hq⟩ : ∃ q : Int, q = (n : Int) + 44 := ⟨_, rfl⟩
  have hw : IntKind.i64.wrap ((n : Int) + 45) = (n : Int) + 45 := IntWalk.i64_in _ (by omega)
  have hw2 : IntKind.i64.wrap ((n : Int) + 45 - 1) = (n : Int) + 44 := by rw [show (n : Int) + 45 - 1 = (n : Int) + 44 by omega]; exact IntWalk.i64_in _ (by omega)
  by_cases h0 : n = 0
  · subst h0
    clear hno
    go_enter Try.func8, Try.ntmps8
    go_wp2_with fail
    go_ret2
    exact ⟨2, rfl, by decide, rfl⟩
  have h0' : ¬ ((n : Int) = 0) := by omega
  have h0'' : ((n : Int) == 0) = false := by simpa using h0'
  by_cases h1 : 1 ≤ seq
  case neg =>
    clear hno
    go_enter Try.func8, Try.ntmps8
    go_wp2_with fail
    go_ret2
    exact ⟨2, rfl, by decide, rfl⟩
  by_cases h2 : seq ≤ 1099511627776
  case neg =>
    clear hno
    go_enter Try.func8, Try.ntmps8
    go_wp2_with fail
    go_ret2
    exact ⟨2, rfl, by decide, rfl⟩
  by_cases h3 : 0 ≤ inc
  case neg =>
    clear hno
    go_enter Try.func8, Try.ntmps8
    go_wp2_with fail
    go_ret2
    exact ⟨2, rfl, by decide, rfl⟩
  by_cases h4 : inc ≤ 1048576
  case neg =>
    clear hno
    go_enter Try.func8, Try.ntmps8
    go_wp2_with fail
    go_ret2
    exact ⟨2, rfl, by decide, rfl⟩
  by_cases h5 : n ≤ 90
  case neg =>
    have h5' : ¬ (((n : Int) + 44) / 45 ≤ 2) := by omega
    clear hno
    go_enter Try.func8, Try.ntmps8
    go_wp2_with fail
    go_ret2
    exact ⟨3, rfl, by decide, rfl⟩
  have h5' : ((n : Int) + 44) / 45 ≤ 2 := by omega
  have h6 : ¬ (seq + ((n : Int) + 44) / 45 - 1 ≤ 1099511627776) := by omega
  have h7 : 0 ≤ ((n : Int) + 44) / 45 := by omega
  clear hno
  go_enter Try.func8, Try.ntmps8
  go_wp2_with fail
  go_ret2
  exact ⟨2, rfl, by decide, rfl⟩
end Go.Proofs.Ytcaejcdmkihmbaa
