/- The law StripeBack: maps compared. -/
import Derived.Test.YtbleebiffpkcmaaStripeH
namespace Go.Proofs.Ytbleebiffpkcmaa
open Go.RowKit

theorem wpList_neq_map {ops : Array Oper} {Q : Exit → Act → World → Prop} {a : Act} {w : World} {rest : List Oper} {o : Oper} (hw : Region.wanted o (yielded ops a.tmps) = true) (x y : Operand) (r : TypeId) (ho : o.op = .binOp .neq 34 x y r)
    (V : Int) (of : List Int) (h8 : of.length = 8) (hx : a.eval x = .agg (mp V of).toArray) (hy : a.eval y = .agg (mp V of).toArray)
    (h : wpList Try.prog ops Q rest (a.put o.dst (.bool false)) w) : wpList Try.prog ops Q (o :: rest) a w := by
  refine wpList_wants hw fun K hK => ?_
  have e1 := eq_map w V of h8
  have e2 := run_eqGuard_agg (P := Try.prog) w .neq 34 x y (mp V of).toArray (mp V of).toArray (by kernel_rfl)
  have e3 := run_neq_struct (P := Try.prog) w 34 (mp V of).toArray (mp V of).toArray
  rw [e1] at e3
  unfold Oper.wp execOp
  simp only [ho, hx, hy, Sem.run_bind, e2, e3, Result.andThen_ok, Bool.not_true, Sem.run_pure]
  exact hK _ _ h

/-- a map is laid into the block that was made last (its world told apart: nothing is tried where the operation is another) -/
theorem wpList_map_new2 {w : World} {ops : Array Oper} {rest : List Oper} {o : Oper} {a : Act} {Q : Exit → Act → World → Prop} (hgd : o.guard = none) (x y : Operand) (ho : o.op = .store 34 x y)
    (w0 : World) (hx : a.eval x = .pointer (some ⟨w0.heap.size, 0, none⟩)) (V : Int) (of : List Int) (h8 : of.length = 8) (hy : a.eval y = .agg (mp V of).toArray) (hw : w = w0.alloc (.cells (mp 0 (List.replicate 8 0)).toArray 34))
    (h : wpList Try.prog ops Q rest (a.put o.dst undef) (w0.alloc (.cells (mp V of).toArray 34))) : wpList Try.prog ops Q (o :: rest) a w := by
  subst hw
  exact wpList_map_new hgd x y ho hx V of h8 hy h
end Go.Proofs.Ytbleebiffpkcmaa
