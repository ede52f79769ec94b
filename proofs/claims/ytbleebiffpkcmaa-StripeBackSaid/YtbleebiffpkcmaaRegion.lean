/- A region that draws its order: the operations that yield the same in every world at hand ('still'), then those that come one behind the other ('chain'). Over any program. -/
import Derived.Test.YtbleebiffpkcmaaMem
import Derived.OrdersHeld
import Derived.Deep.RegionHeld3
namespace Go.Proofs.Ytbleebiffpkcmaa
open Go.RowKit

/-- of a list those that the mask lets (b: true: the still ones; false: the chain) -/
def sel (b : Bool) : List Bool → List Oper → List Oper
  | m :: ms, o :: os => if m = b then o :: sel b ms os else sel b ms os
  | _, _ => []
def selI (b : Bool) : Nat → List Bool → List Oper → List Nat
  | n, m :: ms, _ :: os => if m = b then n :: selI b (n + 1) ms os else selI b (n + 1) ms os
  | _, _, _ => []
@[simp] theorem sel_tt (ms : List Bool) (o : Oper) (os : List Oper) : sel true (true :: ms) (o :: os) = o :: sel true ms os := rfl
@[simp] theorem sel_tf (ms : List Bool) (o : Oper) (os : List Oper) : sel true (false :: ms) (o :: os) = sel true ms os := rfl
@[simp] theorem sel_ft (ms : List Bool) (o : Oper) (os : List Oper) : sel false (true :: ms) (o :: os) = sel false ms os := rfl
@[simp] theorem sel_ff (ms : List Bool) (o : Oper) (os : List Oper) : sel false (false :: ms) (o :: os) = o :: sel false ms os := rfl
@[simp] theorem sel_n1 (b : Bool) (os : List Oper) : sel b [] os = [] := by cases os <;> rfl
@[simp] theorem sel_n2 (b : Bool) (ms : List Bool) : sel b ms [] = [] := by cases ms <;> rfl

/-- index and operation, side by side -/
inductive Pair (ops : Array Oper) : List Nat → List Oper → Prop
  | nil : Pair ops [] []
  | cons {i : Nat} {o : Oper} {is : List Nat} {os : List Oper} (h : ops[i]? = some o) (r : Pair ops is os) : Pair ops (i :: is) (o :: os)

theorem pair_sel (ops : Array Oper) (b : Bool) : ∀ (os : List Oper) (ms : List Bool) (n : Nat), (∀ j o, os[j]? = some o → ops[n + j]? = some o) → Pair ops (selI b n ms os) (sel b ms os) := by
  intro os
  induction os with
  | nil => intro ms n _; cases ms <;> exact Pair.nil
  | cons o os ih =>
    intro ms n h
    cases ms with
    | nil => exact Pair.nil
    | cons m ms =>
      have r := ih ms (n + 1) (fun j u hu => by have := h (j + 1) u (by simpa using hu); rw [← this]; congr 1; omega)
      have h0 : ops[n]? = some o := by simpa using h 0 o rfl
      by_cases hm : m = b
      · simp only [selI, sel, if_pos hm]; exact Pair.cons h0 r
      · simp only [selI, sel, if_neg hm]; exact r

def checkA (ops : Array Oper) : List Nat → Array Bool → Option (Array Bool)
  | [], l => some l
  | i :: is, l => if Region.free .any ops l i && (Region.ready .any ops l).contains i then checkA ops is (l.setIfInBounds i true) else none
def checkT (ops : Array Oper) : List Nat → Array Bool → Bool
  | [], l => (Region.ready .any ops l).isEmpty
  | t :: ts, l => (Region.ready .any ops l == [t]) && checkT ops ts (l.setIfInBounds t true)
def checkAT (ops : Array Oper) (ms : List Bool) : Bool :=
  Region.noSelect ops && match checkA ops (selI true 0 ms ops.toList) (Array.replicate ops.size false) with
    | some l => checkT ops (selI false 0 ms ops.toList) l
    | none => false

section
variable (P : Program) (ops : Array Oper) (Q : Exit → Act → World → Prop) (S : World → Prop)

def Still : List Oper → Act → (Act → Prop) → Prop
  | [], a, K => K a
  | o :: os, a, K => ∃ v, YieldsIf P ops S o v a ∧ Still os (a.put o.dst v) K

def Chain : List Oper → Act → World → Prop
  | [], a, w => Q .normal a w
  | o :: os, a, w => if Region.wanted o (yielded ops a.tmps) = true then o.wp P a w (fun a' w' => S w' ∧ Chain os a' w') Q else Chain os (a.put o.dst undef) w
end

section
variable {P : Program} {ops : Array Oper} {Q : Exit → Act → World → Prop} {S : World → Prop}

theorem still_step {o : Oper} {os : List Oper} {a : Act} {K : Act → Prop} {v : Value} (hw : Region.wanted o (yielded ops a.tmps) = true)
    (hy : ∀ w, S w → (execOp a.eval o).run P w = .ok (.value v) w) (h : Still P ops S os (a.put o.dst v) K) : Still P ops S (o :: os) a K := ⟨v, .inl ⟨hw, hy⟩, h⟩
theorem still_skip {o : Oper} {os : List Oper} {a : Act} {K : Act → Prop} (hw : Region.wanted o (yielded ops a.tmps) = false)
    (h : Still P ops S os (a.put o.dst undef) K) : Still P ops S (o :: os) a K := ⟨undef, .inr ⟨hw, rfl⟩, h⟩
theorem still_nil {a : Act} {K : Act → Prop} (h : K a) : Still P ops S [] a K := h

theorem chain_step {o : Oper} {os : List Oper} {a : Act} {w : World} (hw : Region.wanted o (yielded ops a.tmps) = true)
    (h : ∀ K : Act → World → Prop, Hid (∀ a' w', S w' → Chain P ops Q S os a' w' → K a' w') → o.wp P a w K Q) : Chain P ops Q S (o :: os) a w := by
  unfold Chain
  rw [if_pos hw]
  exact h _ (fun a' w' hS hC => ⟨hS, hC⟩)
theorem chain_skip {o : Oper} {os : List Oper} {a : Act} {w : World} (hw : Region.wanted o (yielded ops a.tmps) = false)
    (h : Chain P ops Q S os (a.put o.dst undef) w) : Chain P ops Q S (o :: os) a w := by
  unfold Chain
  rw [if_neg (by rw [hw]; decide)]
  exact h
theorem chain_nil {a : Act} {w : World} (h : Q .normal a w) : Chain P ops Q S [] a w := h

theorem chain_any : ∀ (ts : List Nat) (os : List Oper) (l : Array Bool) (a : Act) (w : World) (fuel : Nat), Pair ops ts os → checkT ops ts l = true → ts.length ≤ fuel → S w → Chain P ops Q S os a w → wpAnyH P .any ops Q S fuel l a w := by
  intro ts
  induction ts with
  | nil =>
    intro os l a w fuel hp hc _ _ h
    cases hp
    exact wpAnyH_done (by simpa [checkT] using hc) h fuel
  | cons t ts ih =>
    intro os l a w fuel hp hc hf hS h
    cases hp with
    | cons ho hr =>
      simp only [checkT, Bool.and_eq_true, beq_iff_eq] at hc
      obtain ⟨fuel, rfl⟩ : ∃ f, fuel = f + 1 := ⟨fuel - 1, by simp at hf; omega⟩
      refine wpAnyH_all hc.1 (by simp) (fun i hi => ?_)
      simp only [List.mem_singleton] at hi
      subst hi
      unfold Chain at h
      unfold wpOp
      simp only [ho]
      split
      · rename_i hw
        rw [if_pos hw] at h
        refine .inl (Oper.wp_mono ?_ h)
        intro a' w' ⟨h1, h2⟩
        exact ⟨h1, ih _ _ _ _ _ hr hc.2 (by simp at hf; omega) h1 h2⟩
      · rename_i hw
        rw [if_neg hw] at h
        exact ⟨hS, ih _ _ _ _ _ hr hc.2 (by simp at hf; omega) hS h⟩

theorem still_any {K : Act → Prop} {ts : List Nat} {w : World} (hs : Region.noSelect ops = true) (hQ : ∀ c a d v w, Q (.panic c) (Act.put a d v) w → Q (.panic c) a w) (hS : S w)
    (hK : ∀ (l : Array Bool) (a : Act) (fuel : Nat), checkT ops ts l = true → ts.length ≤ fuel → K a → wpAnyH P .any ops Q S fuel l a w) :
    ∀ (is : List Nat) (os : List Oper) (l l' : Array Bool) (a : Act) (fuel : Nat), Pair ops is os → checkA ops is l = some l' → checkT ops ts l' = true → is.length + ts.length ≤ fuel → Still P ops S os a K → wpAnyH P .any ops Q S fuel l a w := by
  intro is
  induction is with
  | nil =>
    intro os l l' a fuel hp hc ht hf h
    cases hp
    simp only [checkA, Option.some.injEq] at hc
    subst hc
    exact hK l a fuel ht (by simpa using hf) h
  | cons i is ih =>
    intro os l l' a fuel hp hc ht hf h
    cases hp with
    | cons ho hr =>
      simp only [checkA] at hc
      split at hc
      · rename_i hfr
        simp only [Bool.and_eq_true] at hfr
        obtain ⟨fuel, rfl⟩ : ∃ f, fuel = f + 1 := ⟨fuel - 1, by simp at hf; omega⟩
        obtain ⟨v, hy, hrest⟩ := h
        exact wpAnyH_take ho hs hfr.1 hfr.2 (fun c a w => hQ c a _ _ w) hy hS (ih _ _ _ _ _ hr hc ht (by simp at hf; omega) hrest)
      · cases hc

theorem pair_len {is : List Nat} {os : List Oper} (h : Pair ops is os) : is.length = os.length := by
  induction h with
  | nil => rfl
  | cons _ _ ih => simp [ih]

theorem sel_len (ms : List Bool) : ∀ os : List Oper, (sel true ms os).length + (sel false ms os).length ≤ os.length := by
  induction ms with
  | nil => intro os; simp
  | cons m ms ih =>
    intro os
    cases os with
    | nil => simp
    | cons o os =>
      have := ih os
      cases m <;> simp <;> omega

/-- A region that draws its order, by a mask: the still operations first, then the chain. It is shown not to panic. -/
theorem region_mask {id : Nat} {a : Act} {w : World} (ms : List Bool) (hm : P.follows .mixedOrders = true) (hc : checkAT ops ms = true) (hS : S w.drew)
    (h : Still P ops S (sel true ms ops.toList) a (fun a' => Chain P ops (NoPanic Q) S (sel false ms ops.toList) a' w.drew)) : (Code.region id ops true).wp P Q a w := by
  refine wp_region_noPanic ?_
  unfold checkAT at hc
  simp only [Bool.and_eq_true] at hc
  obtain ⟨hs, hc⟩ := hc
  have hp1 := pair_sel ops true ops.toList ms 0 (fun j o hj => by simpa using hj)
  have hp2 := pair_sel ops false ops.toList ms 0 (fun j o hj => by simpa using hj)
  have hlen : (selI true 0 ms ops.toList).length + (selI false 0 ms ops.toList).length ≤ ops.size := by
    rw [pair_len hp1, pair_len hp2]
    have := sel_len ms ops.toList
    simpa using this
  refine wp_region_held_drew hm hS (fun _ => ?_)
  cases hA : checkA ops (selI true 0 ms ops.toList) (Array.replicate ops.size false) with
  | none => rw [hA] at hc; cases hc
  | some l =>
    rw [hA] at hc
    exact still_any hs (fun _ _ _ _ _ h => h) hS (fun l a fuel ht hf hC => chain_any _ _ l a _ fuel hp2 ht hf hS hC) _ _ _ l a _ hp1 hA hc hlen h

theorem chain_end {a : Act} {w : World} (h : Q .normal a w) : Chain P ops (NoPanic Q) S [] a w := h
end

/-! ### The same by a plan: in whatever order the prover names, still operations (true) and such as come up alone (false); behind each of these the condition may be turned into a stronger one -/
def nth : Nat → List Oper → Oper
  | _, [] => default
  | 0, o :: _ => o
  | n + 1, _ :: os => nth n os
theorem nth_zero (o : Oper) (os : List Oper) : nth 0 (o :: os) = o := rfl
theorem nth_succ (n : Nat) (o : Oper) (os : List Oper) : nth (n + 1) (o :: os) = nth n os := rfl

theorem nth_get : ∀ (os : List Oper) (n : Nat), n < os.length → os[n]? = some (nth n os) := by
  intro os
  induction os with
  | nil => intro n h; simp at h
  | cons o os ih =>
    intro n h
    cases n with
    | zero => rfl
    | succ n => simp only [nth]; rw [List.getElem?_cons_succ]; exact ih n (by simpa using h)

def checkPlan (ops : Array Oper) : List (Bool × Nat) → Array Bool → Bool
  | [], l => (Region.ready .any ops l).isEmpty
  | (true, i) :: r, l => decide (i < ops.size) && Region.free .any ops l i && (Region.ready .any ops l).contains i && checkPlan ops r (l.setIfInBounds i true)
  | (false, i) :: r, l => decide (i < ops.size) && (Region.ready .any ops l == [i]) && checkPlan ops r (l.setIfInBounds i true)

def planned (os : List Oper) : List (Bool × Nat) → List (Bool × Oper)
  | [] => []
  | (b, i) :: r => (b, nth i os) :: planned os r
theorem planned_nil (os : List Oper) : planned os [] = [] := rfl
theorem planned_cons (os : List Oper) (b : Bool) (i : Nat) (r : List (Bool × Nat)) : planned os ((b, i) :: r) = (b, nth i os) :: planned os r := rfl

section
variable (P : Program) (ops : Array Oper) (Q : Exit → Act → World → Prop)
def Plan : (World → Prop) → List (Bool × Oper) → Act → World → Prop
  | _, [], a, w => Q .normal a w
  | S, (true, o) :: r, a, w => ∃ v, YieldsIf P ops S o v a ∧ Plan S r (a.put o.dst v) w
  | S, (false, o) :: r, a, w => Region.wanted o (yielded ops a.tmps) = true ∧ o.wp P a w (fun a' w' => ∃ S' : World → Prop, (∀ w, S' w → S w) ∧ S' w' ∧ Plan S' r a' w') Q
end

section
variable {P : Program} {ops : Array Oper} {Q : Exit → Act → World → Prop} {S : World → Prop}

theorem plan_nil {a : Act} {w : World} (h : Q .normal a w) : Plan P ops (NoPanic Q) S [] a w := h
theorem plan_still {o : Oper} {r : List (Bool × Oper)} {a : Act} {w : World} {v : Value} (hw : Region.wanted o (yielded ops a.tmps) = true)
    (hy : ∀ w, S w → (execOp a.eval o).run P w = .ok (.value v) w) (h : Plan P ops Q S r (a.put o.dst v) w) : Plan P ops Q S ((true, o) :: r) a w := ⟨v, .inl ⟨hw, hy⟩, h⟩
theorem plan_still2 {o : Oper} {r : List (Bool × Oper)} {a : Act} {w : World} {v : Value} {a' : Act} (hw : Region.wanted o (yielded ops a.tmps) = true)
    (hy : ∀ w, S w → (execOp a.eval o).run P w = .ok (.value v) w) (ha : a.put o.dst v = a') (h : Plan P ops Q S r a' w) : Plan P ops Q S ((true, o) :: r) a w := by
  subst ha
  exact ⟨v, .inl ⟨hw, hy⟩, h⟩
theorem plan_skip2 {o : Oper} {r : List (Bool × Oper)} {a : Act} {w : World} {a' : Act} (hw : Region.wanted o (yielded ops a.tmps) = false)
    (ha : a.put o.dst undef = a') (h : Plan P ops Q S r a' w) : Plan P ops Q S ((true, o) :: r) a w := by
  subst ha
  exact ⟨undef, .inr ⟨hw, rfl⟩, h⟩
theorem plan_skip {o : Oper} {r : List (Bool × Oper)} {a : Act} {w : World} (hw : Region.wanted o (yielded ops a.tmps) = false)
    (h : Plan P ops Q S r (a.put o.dst undef) w) : Plan P ops Q S ((true, o) :: r) a w := ⟨undef, .inr ⟨hw, rfl⟩, h⟩
theorem plan_do {o : Oper} {r : List (Bool × Oper)} {a : Act} {w : World} (hw : Region.wanted o (yielded ops a.tmps) = true)
    (h : ∀ K : Act → World → Prop, Hid (∀ a' w', S w' → Plan P ops Q S r a' w' → K a' w') → o.wp P a w K Q) : Plan P ops Q S ((false, o) :: r) a w :=
  ⟨hw, h _ (fun _ _ hS hC => ⟨S, fun _ h => h, hS, hC⟩)⟩
/-- behind it the condition is S' -/
theorem plan_turn {o : Oper} {r : List (Bool × Oper)} {a : Act} {w : World} (hw : Region.wanted o (yielded ops a.tmps) = true)
    (h : ∀ K : Act → World → Prop, Hid (∀ (S' : World → Prop) a' w', (∀ w, S' w → S w) → S' w' → Plan P ops Q S' r a' w' → K a' w') → o.wp P a w K Q) : Plan P ops Q S ((false, o) :: r) a w :=
  ⟨hw, h _ (fun S' _ _ h1 h2 h3 => ⟨S', h1, h2, h3⟩)⟩

theorem wpAnyH_mono {S' : World → Prop} (hs : ∀ w, S' w → S w) : ∀ (fuel : Nat) (l : Array Bool) (a : Act) (w : World), wpAnyH P .any ops Q S' fuel l a w → wpAnyH P .any ops Q S fuel l a w
  | 0, _, _, _, h => h
  | fuel + 1, _, _, _, h => ⟨h.1, fun i hi => wpOp_mono (fun a' w' h' => ⟨hs _ h'.1, wpAnyH_mono hs fuel _ a' w' h'.2⟩) (h.2 i hi)⟩

theorem plan_any (hs : Region.noSelect ops = true) (hQ : ∀ c a d v w, Q (.panic c) (Act.put a d v) w → Q (.panic c) a w) :
    ∀ (pl : List (Bool × Nat)) (S : World → Prop) (l : Array Bool) (a : Act) (w : World) (fuel : Nat), checkPlan ops pl l = true → pl.length ≤ fuel → S w → Plan P ops Q S (planned ops.toList pl) a w → wpAnyH P .any ops Q S fuel l a w := by
  intro pl
  induction pl with
  | nil =>
    intro S l a w fuel hc _ _ h
    exact wpAnyH_done (by simpa [checkPlan] using hc) h fuel
  | cons x pl ih =>
    obtain ⟨b, i⟩ := x
    intro S l a w fuel hc hf hS h
    obtain ⟨fuel, rfl⟩ : ∃ f, fuel = f + 1 := ⟨fuel - 1, by simp at hf; omega⟩
    cases b with
    | true =>
      simp only [checkPlan, Bool.and_eq_true, decide_eq_true_eq] at hc
      obtain ⟨⟨⟨hlt, hfr⟩, hrd⟩, hc⟩ := hc
      have ho : ops[i]? = some (nth i ops.toList) := by rw [← nth_get ops.toList i (by simpa using hlt)]; simp
      obtain ⟨v, hy, hrest⟩ := h
      exact wpAnyH_take ho hs hfr hrd (fun c a w => hQ c a _ _ w) hy hS (ih S _ _ _ _ hc (by simp at hf; omega) hS hrest)
    | false =>
      simp only [checkPlan, Bool.and_eq_true, decide_eq_true_eq, beq_iff_eq] at hc
      obtain ⟨⟨hlt, hrd⟩, hc⟩ := hc
      have ho : ops[i]? = some (nth i ops.toList) := by rw [← nth_get ops.toList i (by simpa using hlt)]; simp
      refine wpAnyH_all hrd (by simp) (fun j hj => ?_)
      simp only [List.mem_singleton] at hj
      subst hj
      obtain ⟨hw, h⟩ := h
      unfold wpOp
      simp only [ho]
      rw [if_pos hw]
      refine .inl (Oper.wp_mono ?_ h)
      intro a' w' ⟨S', h1, h2, h3⟩
      exact ⟨h1 _ h2, wpAnyH_mono h1 _ _ _ _ (ih S' _ a' w' fuel hc (by simp at hf; omega) h2 h3)⟩

/-- A region that draws its order, by a plan. It is shown not to panic. -/
theorem region_plan {id : Nat} {a : Act} {w : World} (pl : List (Bool × Nat)) (hm : P.follows .mixedOrders = true) (hs : Region.noSelect ops = true)
    (hc : checkPlan ops pl (Array.replicate ops.size false) = true) (hl : pl.length = ops.size) (hS : S w.drew)
    (h : Plan P ops (NoPanic Q) S (planned ops.toList pl) a w.drew) : (Code.region id ops true).wp P Q a w := by
  refine wp_region_noPanic ?_
  refine wp_region_held_drew hm hS (fun _ => ?_)
  exact plan_any hs (fun _ _ _ _ _ h => h) pl S _ a _ _ hc (by omega) hS h
end
end Go.Proofs.Ytbleebiffpkcmaa
