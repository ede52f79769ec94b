/- A struct that came in, all of whose cells are integers of one kind. -/
import Derived.Test.YtbleebiffpkcmaaRowsOpen
import Derived.WideShapes
namespace Go.Proofs.Ytbleebiffpkcmaa
open Go.RowKit Go.WideShapes

/-- the i-th cell of a struct is an integer -/
def cellInt (P : Program) (k : IntKind) (fs : Array Field) (i : Nat) : Bool :=
  fs.toList.any fun f => match P.underlying f.type with
    | some (.int k') => decide (k' = k) && decide (f.offset = i) && decide (P.cellsOf f.type = 1)
    | some (.array m e) => (match P.underlying e with | some (.int k') => decide (k' = k) | _ => false) && decide (P.cellsOf e = 1) && decide (P.cellsOf f.type = m) && decide (f.offset ≤ i) && decide (i < f.offset + m)
    | _ => false
def cellsInt (P : Program) (k : IntKind) (t : TypeId) (n : Nat) : Bool :=
  decide (P.cellsOf t = n) && match P.underlying t with
    | some (.struct fs) => (List.range n).all (cellInt P k fs)
    | _ => false

section
variable {H : Type} {enc : TypeId × Value → H} {P : Program} {w : World} {base : Nat} {sp : Nat → Bool} {held : Bool}

theorem cells_ints {n : Nat} {t : TypeId} {k : IntKind} {fuel : Nat} {cs : List Value} {x : DataW H × List MemPlace} (hc : cellsInt P k t n = true)
    (h : DataW.trod enc P w base sp held fuel t cs = some x) : ∃ zs : List Int, cs = zs.map (.int k) ∧ zs.length = n ∧ ∀ z ∈ zs, (Lit.int k z).wf = true := by
  unfold cellsInt at hc
  simp only [Bool.and_eq_true, decide_eq_true_eq] at hc
  obtain ⟨hn, hc⟩ := hc
  split at hc
  case h_2 => cases hc
  rename_i fs ht
  obtain ⟨xs, m, _, _, hl, hlen, hf⟩ := DataW.trod_struct ht h
  rw [hn] at hl
  have hcell : ∀ i (hin : i < cs.length), ∃ z, cs[i] = .int k z ∧ (Lit.int k z).wf = true := by
    intro i hin
    have h1 := List.all_eq_true.1 hc i (List.mem_range.2 (by omega))
    unfold cellInt at h1
    obtain ⟨f, hfm, h2⟩ := List.any_eq_true.1 h1
    obtain ⟨j, hj⟩ := List.getElem?_of_mem hfm
    have hjl : j < fs.size := by
      have := (List.getElem?_eq_some_iff.1 hj).1
      simpa using this
    have h3 := hf j f (by simpa using hj)
    rw [List.getElem?_eq_getElem (by omega)] at h3
    split at h2
    · rename_i k' hk
      simp only [Bool.and_eq_true, decide_eq_true_eq] at h2
      obtain ⟨⟨rfl, rfl⟩, h4⟩ := h2
      rw [h4, List.drop_eq_getElem_cons hin] at h3
      obtain ⟨z, hz, _, hw⟩ := DataW.trod_int hk h3
      simp only [List.take_succ_cons, List.take_zero, List.cons.injEq, and_true] at hz
      exact ⟨z, hz, hw⟩
    · rename_i m' e hk
      simp only [Bool.and_eq_true, decide_eq_true_eq] at h2
      obtain ⟨⟨⟨⟨h4, h5⟩, h6⟩, h7⟩, h8⟩ := h2
      split at h4
      · rename_i k' he
        simp only [decide_eq_true_eq] at h4
        subst h4
        obtain ⟨zs, hzs, hzl, hzw⟩ := array_ints hk he h5 h6 h3
        have h9 : ((cs.drop f.offset).take (P.cellsOf f.type))[i - f.offset]? = some cs[i] := by
          rw [List.getElem?_take, if_pos (by omega), List.getElem?_drop]
          rw [show f.offset + (i - f.offset) = i by omega, List.getElem?_eq_getElem hin]
        rw [hzs, List.getElem?_map] at h9
        simp only [Option.map_eq_some_iff] at h9
        obtain ⟨z, hz1, hz2⟩ := h9
        exact ⟨z, hz2.symm, hzw z (List.mem_of_getElem? hz1)⟩
      · cases h4
    · cases h2
  refine ⟨cs.map (fun v => match v with | .int _ z => z | _ => 0), ?_, by simpa using hl, ?_⟩
  · rw [List.map_map]
    apply List.ext_getElem
    · simp
    · intro i h1 h2
      obtain ⟨z, hz, _⟩ := hcell i h1
      simp only [List.getElem_map, Function.comp]
      rw [hz]
  · intro z hz
    obtain ⟨v, hv, rfl⟩ := List.mem_map.1 hz
    obtain ⟨i, hin, rfl⟩ := List.getElem_of_mem hv
    obtain ⟨z', hz', hw⟩ := hcell i hin
    rw [hz']; exact hw

/-- by value -/
theorem open_ints_struct {r : Reach} {b0 n : Nat} {t : TypeId} {fs : Array Field} {k : IntKind} {v : Value} {d : DataW H} {p : List MemPlace} (hs : P.underlying t = some (.struct fs)) (hc : cellsInt P k t n = true)
    (hv : Value.okWide P w r b0 t v) (h : DataW.Trod enc P w base sp held t v d p) : ∃ zs : List Int, v = .agg (zs.map (.int k)).toArray ∧ zs.length = n ∧ ∀ z ∈ zs, (Lit.int k z).wf = true := by
  obtain ⟨cs, rfl, hsz⟩ := okWide_struct hs hv
  obtain ⟨fuel, hf⟩ := h
  obtain ⟨zs, h1, h2, h3⟩ := cells_ints hc hf
  refine ⟨zs, ?_, h2, h3⟩
  have : cs = (zs.map (Value.int k)).toArray := by
    apply Array.toList_inj.1
    simpa [Value.cells] using h1
  rw [this]
end
end Go.Proofs.Ytbleebiffpkcmaa
