/- Small whole numbers as floats: closed facts. -/
import GoSem.Op.Complex
import GoSem.Conv.FloatToInt
import GoSem.Op.Equal
namespace Go.Proofs.Ytbleebiffpkcmaa
open Go

/-- a whole number as a float's bits -/
def fl (n : Nat) : Nat := FloatKind.f64.nearest (n : Int)

theorem fl_zero : fl 0 = 0 := by decide +kernel
theorem fl_one : fl 1 = 4607182418800017408 := by decide +kernel
theorem fl_add0 : ∀ n : Fin 40, FloatKind.f64.format.add (fl n.val) 0 = some (fl n.val) := by decide +kernel
theorem fl_add1 : ∀ n : Fin 40, FloatKind.f64.format.add (fl n.val) 4607182418800017408 = some (fl (n.val + 1)) := by decide +kernel
theorem fl_int : ∀ n : Fin 40, (FloatKind.f64.decode (fl n.val)).toInt .zero = some (n.val : Int) := by decide +kernel
theorem fl_eq0 : ∀ n : Fin 40, Op.floatEq .f64 (fl n.val) 0 = decide (n.val = 0) := by decide +kernel
end Go.Proofs.Ytbleebiffpkcmaa
