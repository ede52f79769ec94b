/- The walk of the layer-22 laws' own 'wakes'. -/
import Derived.Test.YtbleebiffpkcmaaStripeB
import Derived.Test.YtbleebiffpkcmaaStripeC
namespace Go.Proofs.Ytbleebiffpkcmaa
open Go.RowKit

def wof : List Int := [1, 2, 1, 2, 1, 2, 1, 2]

set_option maxRecDepth 100000 in
set_option maxHeartbeats 2000000 in
theorem wakes22_any (w : World) : Calls Try.prog 13 #[] w fun e w' => e = .returned (.bool true) ∧ Below w.heap.size w w' := by
  have bl0 := fun (w : World) => run_build (P := Try.prog) w 32 #[(0, .int .i64 1), (1, .int .i64 2), (2, .int .i64 1), (3, .int .i64 2), (4, .int .i64 1), (5, .int .i64 2), (6, .int .i64 1), (7, .int .i64 2)] (is wof).toArray (by kernel_rfl)
  have bl1 := fun (w : World) => run_build (P := Try.prog) w 34 #[(1, .agg (is wof).toArray)] (mp 0 wof).toArray (by kernel_rfl)
  have bl2 := fun (w : World) => run_build (P := Try.prog) w 36 #[(0, .int .i64 0), (1, .int .i64 2)] #[.int .i64 0, .int .i64 2] (by kernel_rfl)
  go_enter Try.func13, Try.ntmps13
  go_wp2_with fail
  have hb1 : Below w.heap.size w (Bx w 0 wof) := (Below.refl _ _).alloc (Nat.le_refl _) _
  have hB1 : Blk (Bx w 0 wof) w.heap.size 34 (mp 0 wof) := Blk.new w 34 (mp 0 wof)
  change Calls _ _ #[.agg (mp 0 wof).toArray, .int .i64 ((9 : Nat) : Int)] (Bx w 0 wof) _
  generalize Bx w 0 wof = w1 at hb1 hB1
  refine (place_in 0 wof 9 _ (by decide) (by decide) (by decide)).mono ?_
  rintro e w2 ⟨rfl, hb12⟩
  rw [show (St.shard wof 9 : Int) = 1 by decide, show (St.sl wof 9 : Int) = 5 by decide, show St.er wof 9 = 0 by decide]
  have hB2 := hB1.below hb12 hB1.lt
  have hb2 : Below w.heap.size w w2 := hb1.trans (hb12.mono hb1.size)
  have hs : (Try.prog.info? 34).map (·.size) = some (mp 0 wof).toArray.size := by kernel_rfl
  clear hb1 hB1 hb12
  go_wp2_with (refine wpList_load_row rfl _ (.tmp 1) rfl w.heap.size rfl 34 (mp 0 wof).toArray (0, 0) _ hB2 Try.underlying34 rfl hs ?_)
  refine (block_in 0 wof 9 1 5 _ (by decide) (by decide) (by decide) (by decide) (by decide) (by decide) (by decide)).mono ?_
  rintro e w3 ⟨rfl, hb23⟩
  have hB3 := hB2.below hb23 hB2.lt
  have hb3 : Below w.heap.size w w3 := hb2.trans (hb23.mono hb2.size)
  clear hb2 hB2 hb23
  go_wp2_with (refine wpList_load_row rfl _ (.tmp 1) rfl w.heap.size rfl 34 (mp 0 wof).toArray (0, 0) _ hB3 Try.underlying34 rfl hs ?_)
  refine (change_yes 0 wof 0 2 _ (by decide) (by decide) (by decide) (by decide) (by decide) (by decide)).mono ?_
  rintro e w4 ⟨rfl, hb34⟩
  have hb4 : Below w.heap.size w w4 := hb3.trans (hb34.mono hb3.size)
  clear hb3 hB3 hb34
  rw [show (mp (0 + 1) (wof.set 0 2)).toArray = #[.int .i64 1, .int .i64 2, .int .i64 2, .int .i64 1, .int .i64 2, .int .i64 1, .int .i64 2, .int .i64 1, .int .i64 2] by rfl]
  go_wp2_with fail
  go_ret
  exact ⟨rfl, hb4.alloc hb4.size _⟩
end Go.Proofs.Ytbleebiffpkcmaa
