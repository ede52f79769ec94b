/- results that lie in a block: over any program. -/
import Derived.Test.YtbleebiffpkcmaaMemApp
import Derived.Laws.ResultCell
import Derived.Laws.Rows
namespace Go.Proofs.Ytbleebiffpkcmaa
open Go.RowKit

theorem loadVar_blk {P : Program} {w : World} {g : Nat} {ty : TypeId} {l : List Value} {d : TypeDesc} (h : Blk w g ty l) (hu : P.underlying ty = some d)
    (hd : (match d with | .struct _ | .array _ _ => true | _ => false) = true) (hi : (P.info? ty).map (·.size) = some l.length) :
    (loadVar ty ⟨g, 0, none⟩).run P w = .ok (.agg l.toArray) w := by
  have := run_loadVar_row (P := P) w g ty ty l.toArray (0, 0) d h hu hd (by simpa using hi)
  exact this

theorem results_cell_tmp_blk {P : Program} {fn : Func} {p u : Tmp} {ty : TypeId} (h : fn.results = #[.cell p ty, .tmp u]) (tmps : Array Value) (w : World) {g : Nat} {l : List Value} {d : TypeDesc}
    (hp : tmps.getD p undef = .pointer (some ⟨g, 0, none⟩)) (hB : Blk w g ty l) (hu : P.underlying ty = some d)
    (hd : (match d with | .struct _ | .array _ _ => true | _ => false) = true) (hi : (P.info? ty).map (·.size) = some l.length) :
    (results fn tmps).run P w = .ok (.tuple #[.agg l.toArray, tmps.getD u undef]) w := by
  rw [results_cell_tmp h, hp]
  simp [asAddr, Result.andThen, loadVar_blk hB hu hd hi]

end Go.Proofs.Ytbleebiffpkcmaa
