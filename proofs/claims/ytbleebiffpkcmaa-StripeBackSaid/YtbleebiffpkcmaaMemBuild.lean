/- a slice built of one aggregate: over any program. -/
import Derived.Test.YtbleebiffpkcmaaMemApp
import Derived.Laws.MakeOwn
namespace Go.Proofs.Ytbleebiffpkcmaa
open Go.RowKit

theorem foldl_put (cs : List Value) : ∀ (pre : List Value) (old : List Value), old.length = cs.length →
    (cs.zipIdx pre.length).foldl (fun (a : Array Value) (x : Value × Nat) => a.setIfInBounds x.2 x.1) (pre ++ old).toArray = (pre ++ cs).toArray := by
  induction cs with
  | nil =>
    intro pre old h
    have : old = [] := List.eq_nil_of_length_eq_zero (by simpa using h)
    subst this; rfl
  | cons c cs ih =>
    intro pre old h
    cases old with
    | nil => simp at h
    | cons o old =>
      simp only [List.zipIdx_cons, List.foldl_cons, List.setIfInBounds_toArray]
      have e : (pre ++ o :: old).set pre.length c = (pre ++ [c]) ++ old := by
        rw [List.set_append_right _ _ (Nat.le_refl _), Nat.sub_self, List.set_cons_zero]
        simp
      rw [e]
      have := ih (pre ++ [c]) old (by simpa using h)
      rw [List.length_append, List.length_singleton] at this
      rw [this]
      simp

theorem fill_one (s : Nat) (Z : Array Value) (cs : List Value) (hz : Z.size = s) (hl : cs.length = s) :
    Instr.fill (fun i => some (i * s, s)) Z [(0, .agg cs.toArray)] = some cs.toArray := by
  have hf := foldl_put cs [] Z.toList (by simp; omega)
  simp only [List.nil_append, List.length_nil, Array.toArray_toList] at hf
  simp [Instr.fill, Value.cells, hl]
  refine ⟨by omega, ?_⟩
  simpa using hf

theorem run_build1 {P : Program} (w : World) {t e : TypeId} {size bytes : Nat} (hT : SliceTy P t e size bytes) (cs : List Value) (hl : cs.length = size) (hs : size ≤ 1000000) :
    (Instr.buildSlice t 1 #[(0, .agg cs.toArray)]).run P w = .ok (.slice (some ⟨w.heap.size, 0, none⟩) 1 1) (w.alloc (.cells cs.toArray e)) := by
  obtain ⟨i, z, hi, hz, hsz, hby, hzs⟩ := hT.info
  have hpos := hT.pos
  have n0 : ¬ (2 ^ 24 < i.size) := by omega
  have n1 : ¬ (i.size = 0) := by omega
  have hf := fill_one i.size ((Array.range i.size).map fun j => z.cells[j % z.cells.size]!) cs (by simp) (by omega)
  simp at n0
  simp [Instr.buildSlice, run_underlying hT.und, sizeOf, typeInfo, hi, zeroValue, hz, n0, n1, newRow, hf]

theorem wpList_build1 {P : Program} {w : World} {ops : Array Oper} {rest : List Oper} {o : Oper} {a : Act} {Q : Exit → Act → World → Prop} (hgd : o.guard = none) (x : Operand) {t e : TypeId} {size bytes : Nat} (hT : SliceTy P t e size bytes)
    (ho : o.op = .buildSlice t 1 #[(0, x)]) (cs : List Value) (hx : a.eval x = .agg cs.toArray) (hl : cs.length = size) (hs : size ≤ 1000000)
    (h : wpList P ops Q rest (a.put o.dst (.slice (some ⟨w.heap.size, 0, none⟩) 1 1)) (w.alloc (.cells cs.toArray e))) : wpList P ops Q (o :: rest) a w := by
  refine wpList_plain hgd fun K hK => ?_
  have hrun := run_build1 (P := P) w hT cs hl hs
  unfold Oper.wp execOp
  simp [ho, hx, hrun]
  exact hK _ _ h
end Go.Proofs.Ytbleebiffpkcmaa
