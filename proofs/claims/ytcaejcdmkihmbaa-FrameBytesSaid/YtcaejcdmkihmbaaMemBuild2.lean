/- A slice built of two aggregates: over any program. -/
import Derived.Test.YtcaejcdmkihmbaaMemBuild
namespace Go.Proofs.Ytcaejcdmkihmbaa
open Go.RowKit

theorem foldl_at (off : Nat) (tail : List Value) : ∀ (cs pre old : List Value) (k : Nat), old.length = cs.length → pre.length = off + k →
    (cs.zipIdx k).foldl (fun (a : Array Value) (x : Value × Nat) => a.setIfInBounds (off + x.2) x.1) (pre ++ old ++ tail).toArray = (pre ++ cs ++ tail).toArray := by
  intro cs
  induction cs with
  | nil => intro pre old k h _; have : old = [] := List.eq_nil_of_length_eq_zero (by simpa using h); subst this; rfl
  | cons c cs ih =>
    intro pre old k h hp
    cases old with
    | nil => simp at h
    | cons o old =>
      simp only [List.zipIdx_cons, List.foldl_cons, List.setIfInBounds_toArray]
      have e : (pre ++ o :: old ++ tail).set (off + k) c = (pre ++ [c]) ++ old ++ tail := by
        rw [← hp, List.append_assoc, List.set_append_right _ _ (Nat.le_refl _), Nat.sub_self, List.cons_append, List.set_cons_zero]
        simp
      rw [e, ih (pre ++ [c]) old (k + 1) (by simpa using h) (by rw [List.length_append, List.length_singleton]; omega)]
      simp

theorem fill_two (s : Nat) (Z : Array Value) (cs ds : List Value) (hz : Z.size = s + s) (hl : cs.length = s) (hd : ds.length = s) :
    Instr.fill (fun i => some (i * s, s)) Z [(0, .agg cs.toArray), (1, .agg ds.toArray)] = some (cs ++ ds).toArray := by
  have h1 : (Z.toList.take s).length = s := by simp; omega
  have h2 : (Z.toList.drop s).length = s := by simp; omega
  have f1 := foldl_at 0 (Z.toList.drop s) cs [] (Z.toList.take s) 0 (by omega) rfl
  have f2 := foldl_at s [] ds cs (Z.toList.drop s) 0 (by omega) (by omega)
  simp only [List.nil_append, List.take_append_drop, Array.toArray_toList, List.append_nil] at f1 f2
  simp only [Instr.fill, Value.cells, List.size_toArray, hl, hd, Nat.zero_mul, Nat.one_mul, Nat.zero_add]
  simp [hl, hd, hz]
  rw [show (fun (cs : Array Value) (x : Value × Nat) => cs.setIfInBounds x.2 x.1) = fun (a : Array Value) (x : Value × Nat) => a.setIfInBounds (0 + x.2) x.1 by funext a x; rw [Nat.zero_add]]
  rw [f1]
  simp [hl, h2]
  simpa using f2

theorem run_build2 {P : Program} (w : World) {t e : TypeId} {size bytes : Nat} (hT : SliceTy P t e size bytes) (cs ds : List Value) (hl : cs.length = size) (hd : ds.length = size) (hs : size ≤ 1000000) :
    (Instr.buildSlice t 2 #[(0, .agg cs.toArray), (1, .agg ds.toArray)]).run P w = .ok (.slice (some ⟨w.heap.size, 0, none⟩) 2 2) (w.alloc (.cells (cs ++ ds).toArray e)) := by
  obtain ⟨i, z, hi, hz, hsz, hby, hzs⟩ := hT.info
  have hpos := hT.pos
  have hf := fill_two i.size ((Array.range (2 * i.size)).map fun j => z.cells[j % z.cells.size]!) cs ds (by simp; omega) (by omega) (by omega)
  simp [Instr.buildSlice, run_underlying hT.und, sizeOf, typeInfo, hi, zeroValue, hz, newRow, hf]
  rw [if_neg (by omega), if_neg (by omega)]
end Go.Proofs.Ytcaejcdmkihmbaa
