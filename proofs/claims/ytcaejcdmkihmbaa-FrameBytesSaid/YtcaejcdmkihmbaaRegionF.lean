/- A region that draws its order, by a plan that may fork: where two operations may come up, each order is walked. Over any program. -/
import Derived.Test.YtcaejcdmkihmbaaRegion
namespace Go.Proofs.Ytcaejcdmkihmbaa
open Go.RowKit

inductive PT where
  | nil : PT
  | still (i : Nat) (r : PT) : PT
  | alone (i : Nat) (r : PT) : PT
  | fork (i : Nat) (r : PT) (j : Nat) (s : PT) : PT

def checkPT (ops : Array Oper) : PT → Array Bool → Bool
  | .nil, l => (Region.ready .any ops l).isEmpty
  | .still i r, l => decide (i < ops.size) && Region.free .any ops l i && (Region.ready .any ops l).contains i && checkPT ops r (l.setIfInBounds i true)
  | .alone i r, l => decide (i < ops.size) && (Region.ready .any ops l == [i]) && checkPT ops r (l.setIfInBounds i true)
  | .fork i r j s, l => decide (i < ops.size) && decide (j < ops.size) && (Region.ready .any ops l == [i, j]) && checkPT ops r (l.setIfInBounds i true) && checkPT ops s (l.setIfInBounds j true)

section
variable (P : Program) (ops : Array Oper) (Q : Exit → Act → World → Prop) (S : World → Prop)
def Tree : PT → Act → World → Prop
  | .nil, a, w => Q .normal a w
  | .still i r, a, w => ∃ v, YieldsIf P ops S (nth i ops.toList) v a ∧ Tree r (a.put (nth i ops.toList).dst v) w
  | .alone i r, a, w => Region.wanted (nth i ops.toList) (yielded ops a.tmps) = true ∧ (nth i ops.toList).wp P a w (fun a' w' => S w' ∧ Tree r a' w') Q
  | .fork i r j s, a, w => (Region.wanted (nth i ops.toList) (yielded ops a.tmps) = true ∧ (nth i ops.toList).wp P a w (fun a' w' => S w' ∧ Tree r a' w') Q) ∧
      (Region.wanted (nth j ops.toList) (yielded ops a.tmps) = true ∧ (nth j ops.toList).wp P a w (fun a' w' => S w' ∧ Tree s a' w') Q)
end

section
variable {P : Program} {ops : Array Oper} {Q : Exit → Act → World → Prop} {S : World → Prop}

theorem tree_nil {a : Act} {w : World} (h : Q .normal a w) : Tree P ops (NoPanic Q) S .nil a w := h
theorem tree_still {os : List Oper} {i : Nat} {r : PT} {a : Act} {w : World} {v : Value} (ho : ops.toList = os) (hw : Region.wanted (nth i os) (yielded ops a.tmps) = true)
    (hy : ∀ w, S w → (execOp a.eval (nth i os)).run P w = .ok (.value v) w) (h : Tree P ops Q S r (a.put (nth i os).dst v) w) : Tree P ops Q S (.still i r) a w := by
  subst ho
  exact ⟨v, .inl ⟨hw, hy⟩, h⟩
theorem tree_still2 {os : List Oper} {i : Nat} {r : PT} {a : Act} {w : World} {v : Value} {a' : Act} (ho : ops.toList = os) (hw : Region.wanted (nth i os) (yielded ops a.tmps) = true)
    (hy : ∀ w, S w → (execOp a.eval (nth i os)).run P w = .ok (.value v) w) (ha : a.put (nth i os).dst v = a') (h : Tree P ops Q S r a' w) : Tree P ops Q S (.still i r) a w := by
  subst ho
  subst ha
  exact ⟨v, .inl ⟨hw, hy⟩, h⟩
theorem tree_alone {os : List Oper} {i : Nat} {r : PT} {a : Act} {w : World} (ho : ops.toList = os) (hw : Region.wanted (nth i os) (yielded ops a.tmps) = true)
    (h : ∀ K : Act → World → Prop, Hid (∀ a' w', S w' → Tree P ops Q S r a' w' → K a' w') → (nth i os).wp P a w K Q) : Tree P ops Q S (.alone i r) a w := by
  subst ho
  exact ⟨hw, h _ (fun _ _ hS hC => ⟨hS, hC⟩)⟩
theorem tree_fork {os : List Oper} {i j : Nat} {r s : PT} {a : Act} {w : World} (ho : ops.toList = os) (hw : Region.wanted (nth i os) (yielded ops a.tmps) = true) (hw' : Region.wanted (nth j os) (yielded ops a.tmps) = true)
    (h : ∀ K : Act → World → Prop, Hid (∀ a' w', S w' → Tree P ops Q S r a' w' → K a' w') → (nth i os).wp P a w K Q)
    (h' : ∀ K : Act → World → Prop, Hid (∀ a' w', S w' → Tree P ops Q S s a' w' → K a' w') → (nth j os).wp P a w K Q) : Tree P ops Q S (.fork i r j s) a w := by
  subst ho
  exact ⟨⟨hw, h _ (fun _ _ hS hC => ⟨hS, hC⟩)⟩, ⟨hw', h' _ (fun _ _ hS hC => ⟨hS, hC⟩)⟩⟩

def PT.depth : PT → Nat
  | .nil => 0
  | .still _ r => r.depth + 1
  | .alone _ r => r.depth + 1
  | .fork _ r _ s => max r.depth s.depth + 1

theorem tree_any (hs : Region.noSelect ops = true) (hQ : ∀ c a d v w, Q (.panic c) (Act.put a d v) w → Q (.panic c) a w) :
    ∀ (pl : PT) (l : Array Bool) (a : Act) (w : World) (fuel : Nat), checkPT ops pl l = true → pl.depth ≤ fuel → S w → Tree P ops Q S pl a w → wpAnyH P .any ops Q S fuel l a w := by
  intro pl
  induction pl with
  | nil =>
    intro l a w fuel hc _ _ h
    exact wpAnyH_done (by simpa [checkPT] using hc) h fuel
  | still i r ih =>
    intro l a w fuel hc hf hS h
    simp only [PT.depth] at hf
    obtain ⟨fuel, rfl⟩ : ∃ f, fuel = f + 1 := ⟨fuel - 1, by omega⟩
    simp only [checkPT, Bool.and_eq_true, decide_eq_true_eq] at hc
    obtain ⟨⟨⟨hlt, hfr⟩, hrd⟩, hc⟩ := hc
    have ho : ops[i]? = some (nth i ops.toList) := by rw [← nth_get ops.toList i (by simpa using hlt)]; simp
    obtain ⟨v, hy, hrest⟩ := h
    exact wpAnyH_take ho hs hfr hrd (fun c a w => hQ c a _ _ w) hy hS (ih _ _ _ _ hc (by omega) hS hrest)
  | alone i r ih =>
    intro l a w fuel hc hf hS h
    simp only [PT.depth] at hf
    obtain ⟨fuel, rfl⟩ : ∃ f, fuel = f + 1 := ⟨fuel - 1, by omega⟩
    simp only [checkPT, Bool.and_eq_true, decide_eq_true_eq, beq_iff_eq] at hc
    obtain ⟨⟨hlt, hrd⟩, hc⟩ := hc
    have ho : ops[i]? = some (nth i ops.toList) := by rw [← nth_get ops.toList i (by simpa using hlt)]; simp
    refine wpAnyH_all hrd (by simp) (fun j hj => ?_)
    simp only [List.mem_singleton] at hj
    subst hj
    obtain ⟨hw, h⟩ := h
    unfold wpOp
    simp only [ho]
    rw [if_pos hw]
    exact .inl (Oper.wp_mono (fun a' w' ⟨h2, h3⟩ => ⟨h2, ih _ a' w' fuel hc (by omega) h2 h3⟩) h)
  | fork i r j s ih1 ih2 =>
    intro l a w fuel hc hf hS h
    simp only [PT.depth] at hf
    obtain ⟨fuel, rfl⟩ : ∃ f, fuel = f + 1 := ⟨fuel - 1, by omega⟩
    simp only [checkPT, Bool.and_eq_true, decide_eq_true_eq, beq_iff_eq] at hc
    obtain ⟨⟨⟨⟨hlt, hlt'⟩, hrd⟩, hc⟩, hc'⟩ := hc
    have ho : ops[i]? = some (nth i ops.toList) := by rw [← nth_get ops.toList i (by simpa using hlt)]; simp
    have ho' : ops[j]? = some (nth j ops.toList) := by rw [← nth_get ops.toList j (by simpa using hlt')]; simp
    refine wpAnyH_all hrd (by simp) (fun k hk => ?_)
    simp only [List.mem_cons, List.not_mem_nil, or_false] at hk
    obtain ⟨⟨hw, h⟩, ⟨hw', h'⟩⟩ := h
    rcases hk with rfl | rfl
    · unfold wpOp
      simp only [ho]
      rw [if_pos hw]
      exact .inl (Oper.wp_mono (fun a' w' ⟨h2, h3⟩ => ⟨h2, ih1 _ a' w' fuel hc (by omega) h2 h3⟩) h)
    · unfold wpOp
      simp only [ho']
      rw [if_pos hw']
      exact .inl (Oper.wp_mono (fun a' w' ⟨h2, h3⟩ => ⟨h2, ih2 _ a' w' fuel hc' (by omega) h2 h3⟩) h')

/-- A region that draws its order, by a plan that may fork. It is shown not to panic. -/
theorem region_tree {id : Nat} {a : Act} {w : World} (pl : PT) (hm : P.follows .mixedOrders = true) (hs : Region.noSelect ops = true)
    (hc : checkPT ops pl (Array.replicate ops.size false) = true) (hl : pl.depth ≤ ops.size) (hS : S w.drew)
    (h : Tree P ops (NoPanic Q) S pl a w.drew) : (Code.region id ops true).wp P Q a w := by
  refine wp_region_noPanic ?_
  refine wp_region_held_drew hm hS (fun _ => ?_)
  exact tree_any hs (fun _ _ _ _ _ h => h) pl _ a _ _ hc hl hS h
end
end Go.Proofs.Ytcaejcdmkihmbaa
