/- an array read whole at any place; an array value indexed: over any program. -/
import Derived.Test.YtbleebiffpkcmaaMemField
import Derived.Laws.Cells
import Derived.Laws.Rows
namespace Go.Proofs.Ytbleebiffpkcmaa
open Go.RowKit

theorem run_load_at {P : Program} (w : World) {ty : TypeId} {d : TypeDesc} (hu : P.underlying ty = some d) (hd : (match d with | .struct _ | .array _ _ => true | _ => false) = true)
    {cs : List Value} (hi : (P.info? ty).map (·.size) = some cs.length) (b off : Nat) (h : ∀ j v, cs[j]? = some v → w.cell? ⟨b, off + j, none⟩ = some v) :
    (loadVar ty ⟨b, off, none⟩).run P w = .ok (.agg cs.toArray) w := by
  have hl := run_loadCells_list (P := P) (w := w) ⟨b, off, none⟩ cs (fun j v hv => by rw [addr_add]; exact h j v hv)
  cases hq : P.info? ty with
  | none => simp [hq] at hi
  | some i =>
    have hs : i.size = cs.length := by simpa [hq] using hi
    have hagg : (isAgg ty).run P w = .ok true w := by
      unfold isAgg
      rw [Sem.run_bind, run_underlying hu w]
      cases d <;> simp_all
    simp [loadVar, Sem.run_bind, hagg, sizeOf, typeInfo, hq, hs, hl]

theorem wpList_load_at {P : Program} {ops : Array Oper} {rest : List Oper} {o : Oper} {a : Act} {w : World} {Q : Exit → Act → World → Prop} (hgd : o.guard = none) (ty : TypeId) (x : Operand) (ho : o.op = .load ty x)
    (b off : Nat) (hx : a.eval x = .pointer (some ⟨b, off, none⟩)) (cs : List Value) (d : TypeDesc) (hA : At w (some ⟨b, off, none⟩) cs) (h0 : 0 < cs.length)
    (hu : P.underlying ty = some d) (hd : (match d with | .struct _ | .array _ _ => true | _ => false) = true) (hi : (P.info? ty).map (·.size) = some cs.length)
    (h : wpList P ops Q rest (a.put o.dst (.agg cs.toArray)) w) : wpList P ops Q (o :: rest) a w := by
  refine wpList_plain hgd fun K hK => ?_
  obtain ⟨b', off', e, hlt, hc⟩ := hA.all h0
  cases e
  have hrun := run_load_at (P := P) w hu hd hi b off hc
  unfold Oper.wp execOp
  simp only [ho, hx, Instr.loadAt, Instr.sureAddr, Sem.run_bind, Sem.run_pure, Result.andThen_ok, hrun]
  exact hK _ _ h

theorem run_index {P : Program} (w : World) {ty e : TypeId} {n : Nat} {d : TypeDesc} (hu : P.underlying ty = some (.array n e)) (he : P.underlying e = some d) (hd : (match d with | .struct _ | .array _ _ => true | _ => false) = false)
    (hi : (P.info? e).map (·.size) = some 1) (cs : List Value) (k : Nat) (hk : k < n) (v : Value) (hv : cs[k]? = some v) :
    (Instr.index ty (.agg cs.toArray) (.int .i64 (k : Int))).run P w = .ok v w := by
  cases hq : P.info? e with
  | none => simp [hq] at hi
  | some i =>
    have hs : i.size = 1 := by simpa [hq] using hi
    have hag : (isAgg e).run P w = .ok false w := by
      unfold isAgg
      rw [Sem.run_bind, run_underlying he w]
      cases d <;> simp_all
    have hkk : (0 : Int) ≤ (k : Int) ∧ (k : Int) < (n : Int) := by omega
    unfold Instr.index
    simp [Sem.run_bind, asIntOf, run_underlying hu, hk, sizeOf, typeInfo, hq, hs, part, hag, hv]
end Go.Proofs.Ytbleebiffpkcmaa
