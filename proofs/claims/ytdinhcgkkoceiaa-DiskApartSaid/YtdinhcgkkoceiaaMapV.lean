/- A map with whole numbers as keys, as a function from keys to values. Over any program. -/
import Derived.Test.YtdinhcgkkoceiaaMemGrown
import Derived.Maps.RangeWalk
import Derived.Maps.OwnOps
import Derived.Maps.Ext
namespace Go.Proofs.Ytdinhcgkkoceiaa
open Go.RowKit Go.MapKept Go.ChangeMaps

/-- a value, read as itself -/
def heldV (v : Value) : Option (DataW Value × List MemPlace) := some (.held v, [])
abbrev kI (n : Int) : Lit := .int .i64 n
theorem wfI {n : Int} (h1 : -9223372036854775808 ≤ n) (h2 : n ≤ 9223372036854775807) : (Lit.int .i64 n).wf = true := by
  simp [Lit.wf, IntKind.min, IntKind.max, IntKind.signed, IntKind.bits]; omega
theorem kI_ne {a b : Int} (h : a ≠ b) : kI a ≠ kI b := by intro e; injection e with _ e; exact h e
theorem kI_key {n : Int} : WideAt.IsKeyLit (kI n) := trivial

/-- what a datum says of a function -/
def Says (D : DataW Value) (f : Int → Option Value) : Prop := ∀ n, Maps.has D (kI n) = (f n).isSome ∧ ∀ v, f n = some v → ∀ z, D.atKey (kI n) z = .held v
/-- block b is a map that has just f -/
def VM (P : Program) (k : TypeId) (w : World) (b q : Nat) (f : Int → Option Value) : Prop := ∃ D, w.ownsMap P k heldV b q D ∧ Says D f

def fput (f : Int → Option Value) (n : Int) (v : Value) : Int → Option Value := fun m => if m = n then some v else f m

section
variable {P : Program} {k e t : TypeId} {w w' : World} {b q : Nat} {f : Int → Option Value}

theorem VM.lt (h : VM P k w b q f) : b < w.heap.size := by obtain ⟨D, h1, _⟩ := h; exact h1.lt
theorem VM.mono (h : VM P k w b q f) {q' : Nat} (hq : q ≤ q') : VM P k w b q' f := by obtain ⟨D, h1, h2⟩ := h; exact ⟨D, h1.mono hq, h2⟩
theorem VM.block (h : VM P k w b q f) (hb : w'.heap[b]? = w.heap[b]?) : VM P k w' b q f := by
  obtain ⟨D, ⟨es, clock, hb', r⟩, h2⟩ := h
  exact ⟨D, ⟨es, clock, hb.trans hb', r⟩, h2⟩
theorem VM.made (w : World) (P : Program) (k : TypeId) : VM P k (w.alloc (.map #[] 0)) w.heap.size 0 (fun _ => none) :=
  ⟨_, World.ownsMap_made w P k heldV, fun n => ⟨rfl, fun v h => by cases h⟩⟩
theorem VM.isMap (h : VM P k w b q f) : ∃ es c, w.heap[b]? = some (.map es c) := by obtain ⟨D, ⟨es, clock, hb', _⟩, _⟩ := h; exact ⟨es, clock, hb'⟩

theorem keyI (hk : P.underlying k = some (.int .i64)) {n : Int} (hn : (kI n).wf = true) : keyOf P k (.int .i64 n) = some (kI n) := Maps.keyOf_int_mk hk hn

theorem VM.look (h : VM P k w b q f) (hk : P.underlying k = some (.int .i64)) (ht : P.underlying t = some (.map k e)) {z : Value} (hz : (zeroValue e).run P w = .ok z w) {n : Int} (hn : (kI n).wf = true) :
    (Instr.lookup t (.map (some b)) (.int .i64 n) false).run P w = .ok ((f n).getD z) w := by
  obtain ⟨D, h1, h2⟩ := h
  obtain ⟨v, ps, hrun, hv⟩ := h1.lookup (Maps.int_keyed hk) ht hz (zd := .held z) (zp := []) rfl (keyI hk hn)
  rw [hrun]
  have hv' : DataW.held v = D.atKey (kI n) (.held z) := by
    simp only [heldV, Option.some.injEq, Prod.mk.injEq] at hv; exact hv.1
  congr 1
  obtain ⟨h3, h4⟩ := h2 n
  cases hf : f n with
  | none =>
    rw [hf] at h3
    rw [Maps.atKey_of_not_has h3] at hv'
    injection hv' with hv'
  | some u =>
    rw [h4 u hf] at hv'
    injection hv' with hv'

theorem Says.put {D : DataW Value} (h : Says D f) (hD : Maps.IsMap D) (n : Int) (v : Value) : Says (D.put (kI n) (.held v)) (fput f n v) := by
  intro m
  unfold fput
  by_cases hm : m = n
  · subst hm
    rw [if_pos rfl]
    exact ⟨Maps.has_put_same hD kI_key _, fun u hu z => by cases hu; exact Maps.atKey_put_same hD kI_key _ z⟩
  · rw [if_neg hm]
    obtain ⟨h1, h2⟩ := h m
    exact ⟨by rw [Maps.has_put_other (kI_ne hm)]; exact h1, fun u hu z => by rw [Maps.atKey_put_other (kI_ne hm)]; exact h2 u hu z⟩

theorem VM.store (h : VM P k w b q f) (hk : P.underlying k = some (.int .i64)) (ht : P.underlying t = some (.map k e)) (hq : q < maxLen) {n : Int} (hn : (kI n).wf = true) (v : Value) :
    ∃ w', (Instr.mapUpdate t (.map (some b)) (.int .i64 n) v).run P w = .ok () w' ∧ VM P k w' b (q + 1) (fput f n v) ∧ w.grownBy w' (some b) ∧ w'.heap.size = w.heap.size := by
  obtain ⟨D, h1, h2⟩ := h
  obtain ⟨w', hrun, h3, h4⟩ := h1.store (Maps.int_keyed hk) ht hq (keyI hk hn) (d := .held v) (ps := []) rfl
  refine ⟨w', hrun, ⟨_, h3, h2.put h1.isMap n v⟩, h4.grown, ?_⟩
  obtain ⟨es, c, es', c', _, rfl⟩ := h4
  simp [setBlock]

theorem VM.clear (h : VM P k w b q f) (ht : P.underlying t = some (.map k e)) (ty : TypeId) :
    ∃ w', (Builtin.clear_ #[t] ty #[.map (some b)]).run P w = .ok (.tuple #[]) w' ∧ VM P k w' b 0 (fun _ => none) ∧ w.grownBy w' (some b) ∧ w'.heap.size = w.heap.size := by
  obtain ⟨D, ⟨es, clock, hb, F, hs, hD⟩, h2⟩ := h
  refine ⟨setBlock w b (.map #[] clock), ?_, ⟨.map [], ⟨#[], clock, heap_setBlock_same hb _, ⟨by simp, stamped_empty clock, by simp⟩, Nat.le_refl _, rfl⟩, fun n => ⟨rfl, fun v h => by cases h⟩⟩, ⟨rfl, rfl, rfl, by simp [setBlock], fun i _ hi => heap_setBlock_other hb _ (fun e => hi (by rw [e]))⟩, by simp [setBlock]⟩
  simp [Builtin.clear_, run_underlying ht, MapKept.run_getObj_map hb, MapKept.run_setObj_map _ hb, Result.andThen, setBlock]
end
end Go.Proofs.Ytdinhcgkkoceiaa
