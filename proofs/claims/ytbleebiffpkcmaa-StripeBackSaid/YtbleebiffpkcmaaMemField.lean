/- a field of an aggregate: over any program. -/
import Derived.Test.YtbleebiffpkcmaaMemApp
import Derived.Laws.StructEq
namespace Go.Proofs.Ytbleebiffpkcmaa
open Go.RowKit

theorem run_field {P : Program} (w : World) (t : TypeId) (cells : Array Value) (i : Nat) (v : Value)
    (h : ((match P.underlying t with | some (.struct fs) => fs[i]? | _ => none).bind fun f => if (match P.underlying f.type with | some (.struct _) => false | some (.array _ _) => false | some _ => true | none => false) then cells[f.offset]? else none) = some v) :
    (Instr.field t (.agg cells) i).run P w = .ok v w := by
  simp only [Option.bind_eq_some_iff] at h
  obtain ⟨f, h1, h2⟩ := h
  split at h1
  · rename_i fs hu
    have hag : (isAgg f.type).run P w = .ok false w ∧ cells[f.offset]? = some v := by
      unfold isAgg
      rw [Sem.run_bind]
      cases hd : P.underlying f.type with
      | none => simp [hd] at h2
      | some d =>
        rw [run_underlying hd w]
        cases d <;> simp_all
    unfold Instr.field
    simp [Sem.run_bind, run_underlying hu, h1, asAgg, part, hag.1, hag.2]
  · cases h1
end Go.Proofs.Ytbleebiffpkcmaa
