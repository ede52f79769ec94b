/- A region that draws its order, by a plan, where a guard may leave out an operation that is no quiet one. Over any program. -/
import Derived.Test.YtdinhcgkkoceiaaRegion
namespace Go.Proofs.Ytdinhcgkkoceiaa
open Go.RowKit

section
variable (P : Program) (ops : Array Oper) (Q : Exit → Act → World → Prop)
def PlanX : (World → Prop) → List (Bool × Oper) → Act → World → Prop
  | _, [], a, w => Q .normal a w
  | S, (true, o) :: r, a, w => ∃ v, YieldsIf P ops S o v a ∧ PlanX S r (a.put o.dst v) w
  | S, (false, o) :: r, a, w => (Region.wanted o (yielded ops a.tmps) = true ∧ o.wp P a w (fun a' w' => ∃ S' : World → Prop, (∀ w, S' w → S w) ∧ S' w' ∧ PlanX S' r a' w') Q) ∨
      (Region.wanted o (yielded ops a.tmps) = false ∧ PlanX S r (a.put o.dst undef) w)
end

section
variable {P : Program} {ops : Array Oper} {Q : Exit → Act → World → Prop} {S : World → Prop}

theorem xplan_nil {a : Act} {w : World} (h : Q .normal a w) : PlanX P ops (NoPanic Q) S [] a w := h
theorem xplan_still2 {o : Oper} {r : List (Bool × Oper)} {a : Act} {w : World} {v : Value} {a' : Act} (hw : Region.wanted o (yielded ops a.tmps) = true)
    (hy : ∀ w, S w → (execOp a.eval o).run P w = .ok (.value v) w) (ha : a.put o.dst v = a') (h : PlanX P ops Q S r a' w) : PlanX P ops Q S ((true, o) :: r) a w := by
  subst ha
  exact ⟨v, .inl ⟨hw, hy⟩, h⟩
theorem xplan_skip2 {o : Oper} {r : List (Bool × Oper)} {a : Act} {w : World} {a' : Act} (hw : Region.wanted o (yielded ops a.tmps) = false)
    (ha : a.put o.dst undef = a') (h : PlanX P ops Q S r a' w) : PlanX P ops Q S ((true, o) :: r) a w := by
  subst ha
  exact ⟨undef, .inr ⟨hw, rfl⟩, h⟩
theorem xplan_skip3 {o : Oper} {r : List (Bool × Oper)} {a : Act} {w : World} {a' : Act} (hw : Region.wanted o (yielded ops a.tmps) = false)
    (ha : a.put o.dst undef = a') (h : PlanX P ops Q S r a' w) : PlanX P ops Q S ((false, o) :: r) a w := by
  subst ha
  exact .inr ⟨hw, h⟩
theorem xplan_do {o : Oper} {r : List (Bool × Oper)} {a : Act} {w : World} (hw : Region.wanted o (yielded ops a.tmps) = true)
    (h : ∀ K : Act → World → Prop, Hid (∀ a' w', S w' → PlanX P ops Q S r a' w' → K a' w') → o.wp P a w K Q) : PlanX P ops Q S ((false, o) :: r) a w :=
  .inl ⟨hw, h _ (fun _ _ hS hC => ⟨S, fun _ h => h, hS, hC⟩)⟩
theorem xplan_turn {o : Oper} {r : List (Bool × Oper)} {a : Act} {w : World} (hw : Region.wanted o (yielded ops a.tmps) = true)
    (h : ∀ K : Act → World → Prop, Hid (∀ (S' : World → Prop) a' w', (∀ w, S' w → S w) → S' w' → PlanX P ops Q S' r a' w' → K a' w') → o.wp P a w K Q) : PlanX P ops Q S ((false, o) :: r) a w :=
  .inl ⟨hw, h _ (fun S' _ _ h1 h2 h3 => ⟨S', h1, h2, h3⟩)⟩

theorem xplan_any (hs : Region.noSelect ops = true) (hQ : ∀ c a d v w, Q (.panic c) (Act.put a d v) w → Q (.panic c) a w) :
    ∀ (pl : List (Bool × Nat)) (S : World → Prop) (l : Array Bool) (a : Act) (w : World) (fuel : Nat), checkPlan ops pl l = true → pl.length ≤ fuel → S w → PlanX P ops Q S (planned ops.toList pl) a w → wpAnyH P .any ops Q S fuel l a w := by
  intro pl
  induction pl with
  | nil =>
    intro S l a w fuel hc _ _ h
    exact wpAnyH_done (by simpa [checkPlan] using hc) h fuel
  | cons x pl ih =>
    obtain ⟨b, i⟩ := x
    intro S l a w fuel hc hf hS h
    obtain ⟨fuel, rfl⟩ : ∃ f, fuel = f + 1 := ⟨fuel - 1, by simp at hf; omega⟩
    cases b with
    | true =>
      simp only [checkPlan, Bool.and_eq_true, decide_eq_true_eq] at hc
      obtain ⟨⟨⟨hlt, hfr⟩, hrd⟩, hc⟩ := hc
      have ho : ops[i]? = some (nth i ops.toList) := by rw [← nth_get ops.toList i (by simpa using hlt)]; simp
      obtain ⟨v, hy, hrest⟩ := h
      exact wpAnyH_take ho hs hfr hrd (fun c a w => hQ c a _ _ w) hy hS (ih S _ _ _ _ hc (by simp at hf; omega) hS hrest)
    | false =>
      simp only [checkPlan, Bool.and_eq_true, decide_eq_true_eq, beq_iff_eq] at hc
      obtain ⟨⟨hlt, hrd⟩, hc⟩ := hc
      have ho : ops[i]? = some (nth i ops.toList) := by rw [← nth_get ops.toList i (by simpa using hlt)]; simp
      refine wpAnyH_all hrd (by simp) (fun j hj => ?_)
      simp only [List.mem_singleton] at hj
      subst hj
      rcases h with ⟨hw, h⟩ | ⟨hw, h⟩
      · unfold wpOp
        simp only [ho]
        rw [if_pos hw]
        refine .inl (Oper.wp_mono ?_ h)
        intro a' w' ⟨S', h1, h2, h3⟩
        exact ⟨h1 _ h2, wpAnyH_mono h1 _ _ _ _ (ih S' _ a' w' fuel hc (by simp at hf; omega) h2 h3)⟩
      · unfold wpOp
        simp only [ho]
        rw [if_neg (by rw [hw]; simp)]
        exact ⟨hS, ih S _ _ _ fuel hc (by simp at hf; omega) hS h⟩

theorem region_planx {id : Nat} {a : Act} {w : World} (pl : List (Bool × Nat)) (hm : P.follows .mixedOrders = true) (hs : Region.noSelect ops = true)
    (hc : checkPlan ops pl (Array.replicate ops.size false) = true) (hl : pl.length = ops.size) (hS : S w.drew)
    (h : PlanX P ops (NoPanic Q) S (planned ops.toList pl) a w.drew) : (Code.region id ops true).wp P Q a w := by
  refine wp_region_noPanic ?_
  refine wp_region_held_drew hm hS (fun _ => ?_)
  exact xplan_any hs (fun _ _ _ _ _ h => h) pl S _ a _ _ hc (by omega) hS h
end
end Go.Proofs.Ytdinhcgkkoceiaa
