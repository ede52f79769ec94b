/- The walk of the layer-5 laws' own 'wakes'. -/
import Derived.Test.YtbleebiffpkcmaaRingT
namespace Go.Proofs.Ytbleebiffpkcmaa
open Go.RowKit

theorem eq_log (a b c d : Int) (w : World) : (Op.equalIn 10000 23 (.agg #[.int .i64 a, .int .i64 b]) (.agg #[.int .i64 c, .int .i64 d])).run Try.prog w = .ok (a == c && b == d) w := by
  have u3 := Try.underlying3
  have a3 := Try.isAgg3
  have z3 := Try.sizeOf3
  have hS : Try.prog.underlying 23 = some (.struct (Try.prog.fieldsOf 23)) := by kernel_rfl
  have hp : Try.prog.stoodInHeld 23 = false := by kernel_rfl
  rw [show (10000 : Nat) = 9999 + 1 from rfl, run_equalIn_agg w 9999 23 _ _ hS hp]
  simp only [Program.fieldsOf, Try.underlying23]
  go_simp
  by_cases h1 : a = c <;> by_cases h2 : b = d <;> simp [h1, h2]

set_option maxRecDepth 100000 in
set_option maxHeartbeats 1000000 in
theorem wakes5_any (w : World) : Calls Try.prog 9 #[] w fun e w' => e = .returned (.bool true) ∧ Below w.heap.size w w' := by
  have bl := fun (w : World) (x y : Int) => run_build (P := Try.prog) w 23 #[(0, .int .i64 x), (1, .int .i64 y)] #[.int .i64 x, .int .i64 y] (by kernel_rfl)
  have hgd : Try.prog.eqGuardType Try.prog.depth 23 = false := by kernel_rfl
  have heq := eq_log
  go_enter Try.func9, Try.ntmps9
  go_wp2_with fail
  refine (take_yes 1 1 3 _ (by decide) (by decide) (by decide)).mono ?_
  rintro e w1 ⟨v1, rfl, hown1, hb1⟩
  obtain ⟨A1, c1, rfl, _, _, hat1⟩ := own_at hown1
  go_wp2_with fail
  have hB2 : Blk (w1.alloc (.cells (P2 1 4).toArray 23)) w1.heap.size 23 (P2 1 4) := Blk.new _ _ _
  have hb12 : Below w1.heap.size w1 (w1.alloc (.cells (P2 1 4).toArray 23)) := (Below.refl _ _).alloc (Nat.le_refl _) _
  change Calls _ _ _ (w1.alloc (.cells (P2 1 4).toArray 23)) _
  generalize w1.alloc (.cells (P2 1 4).toArray 23) = w2 at hB2 hb12 ⊢
  refine (take_full 5 28 3 _ (by decide) (by decide) (by decide)).mono ?_
  rintro e w3 ⟨rfl, hb23⟩
  have hb3 : Below w3.heap.size w3 (w3.alloc (.cells (P2 0 0).toArray 23)) := (Below.refl _ _).alloc (Nat.le_refl _) _
  have hb14 : Below w1.heap.size w1 (w3.alloc (.cells (P2 0 0).toArray 23)) := (hb12.trans (hb23.mono hb12.size)).alloc (hb12.trans (hb23.mono hb12.size)).size _
  have hB4 : Blk (w3.alloc (.cells (P2 0 0).toArray 23)) w1.heap.size 23 (P2 1 4) := ((hB2.below hb23 hB2.lt).alloc _)
  have c0 := hB4.cell 0
  have c1' := hB4.cell 1
  obtain ⟨b1, o1, rfl, -, hc⟩ := (hat1.below hb14 (Nat.le_refl _)).all (by decide)
  have hc2 : (w3.alloc (.cells (P2 0 0).toArray 23)).cell? ⟨b1, o1 + 2, none⟩ = some (.int .i64 3) := hc 2 _ rfl
  have hb04 : Below w.heap.size w (w3.alloc (.cells (P2 0 0).toArray 23)) := hb1.trans (hb14.mono hb1.size)
  go_wp2_with fail
  go_ret
  exact ⟨rfl, hb04⟩
end Go.Proofs.Ytbleebiffpkcmaa
