/- What a law's walk is told of a slice of arrays of integers that came in. -/
import Derived.Test.YtbleebiffpkcmaaRowsAid
import Derived.OpenShut
import Derived.ChangeArms
namespace Go.Proofs.Ytbleebiffpkcmaa
open Go.RowKit

section
variable {H : Type} {enc : TypeId × Value → H} {P : Program} {w : World} {base : Nat} {sp : Nat → Bool} {held : Bool}

theorem array_ints {n : Nat} {e t : TypeId} {k : IntKind} {fuel : Nat} {cs : List Value} {x : DataW H × List MemPlace} (ht : P.underlying t = some (.array n e)) (he : P.underlying e = some (.int k)) (hc : P.cellsOf e = 1) (hct : P.cellsOf t = n)
    (h : DataW.trod enc P w base sp held fuel t cs = some x) : ∃ zs : List Int, cs = zs.map (.int k) ∧ zs.length = n ∧ ∀ z ∈ zs, (Lit.int k z).wf = true := by
  obtain ⟨xs, m, _, _, hl, hxl, hi⟩ := DataW.trod_array ht h
  rw [hct] at hl
  have hcell : ∀ i (hin : i < cs.length), ∃ z, cs[i] = .int k z ∧ (Lit.int k z).wf = true := by
    intro i hin
    have h1 := hi i (by omega)
    rw [hc, Nat.mul_one] at h1
    have h2 : (cs.drop i).take 1 = [cs[i]] := by
      rw [List.drop_eq_getElem_cons hin]; rfl
    rw [h2, List.getElem?_eq_getElem (by omega)] at h1
    obtain ⟨z, hz, _, hw⟩ := DataW.trod_int he h1
    simp only [List.cons.injEq, and_true] at hz
    exact ⟨z, hz, hw⟩
  refine ⟨cs.map (fun v => match v with | .int _ z => z | _ => 0), ?_, by simpa using hl, ?_⟩
  · rw [List.map_map]
    apply List.ext_getElem
    · simp
    · intro i h1 h2
      obtain ⟨z, hz, _⟩ := hcell i h1
      simp only [List.getElem_map, Function.comp]
      rw [hz]
  · intro z hz
    obtain ⟨v, hv, rfl⟩ := List.mem_map.1 hz
    obtain ⟨i, hin, rfl⟩ := List.getElem_of_mem hv
    obtain ⟨z', hz', hw⟩ := hcell i hin
    rw [hz']; exact hw

theorem open_rows_ints {t e : TypeId} {k : IntKind} {m fuel : Nat} {v : Value} {x : DataW H × List MemPlace} (ht : P.underlying t = some (.slice e)) (hc : P.cellsOf e = m)
    (hE : ∀ fuel cs x, DataW.trod enc P w base sp held fuel e cs = some x → ∃ zs : List Int, cs = zs.map (.int k) ∧ zs.length = m ∧ ∀ z ∈ zs, (Lit.int k z).wf = true)
    (h : DataW.trod enc P w base sp held fuel t [v] = some x) :
    ∃ a len cap, v = .slice a len cap ∧ len ≤ cap ∧ ∃ zs : List Int, zs.length = len * m ∧ (∀ z ∈ zs, (Lit.int k z).wf = true) ∧ At w a (zs.map (.int k)) := by
  rcases DataW.trod_slice ht h with ⟨hcs, _⟩ | ⟨a, len, cap, elems, rest, n, _, hcs, _, _, hl, _, hlen, hel, _⟩
  · simp only [List.cons.injEq, and_true] at hcs
    exact ⟨none, 0, 0, hcs, Nat.le_refl _, [], by simp, by simp, At.nil⟩
  · simp only [List.cons.injEq, and_true] at hcs
    have hrow : ∀ j, j ≤ len → ∃ zs : List Int, zs.length = j * m ∧ (∀ z ∈ zs, (Lit.int k z).wf = true) ∧ ∀ i (hi : i < zs.length), w.cell? (a.add i) = some (.int k zs[i]) := by
      intro j
      induction j with
      | zero => intro _; exact ⟨[], by simp, by simp, by simp⟩
      | succ j ih =>
        intro hj
        obtain ⟨zs, hz1, hz2, hz3⟩ := ih (by omega)
        have h1 := hel j (by omega)
        rw [List.getElem?_eq_getElem (by omega), hc] at h1
        simp only [Option.bind_eq_some_iff] at h1
        obtain ⟨cs, hcs1, hcs2⟩ := h1
        obtain ⟨zs', rfl, hz1', hz2'⟩ := hE _ _ _ hcs2
        obtain ⟨_, _, hcell⟩ := World.cells?_some hcs1
        refine ⟨zs ++ zs', by rw [List.length_append, hz1, hz1', Nat.succ_mul], ?_, ?_⟩
        · intro z hz
          rcases List.mem_append.1 hz with h | h
          · exact hz2 z h
          · exact hz2' z h
        · intro i hi
          rw [List.length_append] at hi
          by_cases hlt : i < zs.length
          · rw [List.getElem_append_left hlt]; exact hz3 i hlt
          · rw [List.getElem_append_right (by omega)]
            have h2 := hcell (i - zs.length) (by omega)
            rw [List.getElem?_eq_getElem (by simp; omega)] at h2
            have h3 : (a.add (j * m)).add (i - zs.length) = a.add i := by
              have : j * m + (i - zs.length) = i := by omega
              rw [← this]
              unfold Addr.add
              repeat' split
              all_goals simp_all
              all_goals omega
            rw [h3] at h2
            rw [h2]
            simp
    obtain ⟨zs, hz1, hz2, hz3⟩ := hrow len (Nat.le_refl _)
    refine ⟨some a, len, cap, hcs, hl, zs, hz1, hz2, fun hn => ?_⟩
    rw [List.length_map] at hn
    have h0 := hz3 0 hn
    have hx : a = ⟨a.block, a.off, none⟩ := by
      have := cell_spot h0
      simp [Addr.add] at this
      cases a; simp_all
    refine ⟨a.block, a.off, by rw [← hx], fun j u hu => ?_⟩
    rw [List.getElem?_map] at hu
    have hj : j < zs.length := by
      rcases Nat.lt_or_ge j zs.length with h | h
      · exact h
      · rw [List.getElem?_eq_none h] at hu; cases hu
    have := hz3 j hj
    rw [hx, addr_add] at this
    rw [this]
    rw [List.getElem?_eq_getElem hj] at hu
    exact hu
end

/-- a slice that came in, of arrays of m integers -/
def IsRows (k : IntKind) (m : Nat) (w : World) (a : Option Addr) (len cap : Nat) (zs : List Int) : Prop :=
  len ≤ cap ∧ zs.length = len * m ∧ (∀ z ∈ zs, (Lit.int k z).wf = true) ∧ At w a (zs.map (.int k))

theorem bytes_of_wf : ∀ zs : List Int, (∀ z ∈ zs, (Lit.int .u8 z).wf = true) → ∃ l : List UInt8, l.length = zs.length ∧ zs.map (Value.int .u8) = bs l
  | [], _ => ⟨[], rfl, rfl⟩
  | z :: zs, h => by
    obtain ⟨l, h1, h2⟩ := bytes_of_wf zs (fun z' h' => h z' (List.mem_cons_of_mem _ h'))
    obtain ⟨x, rfl⟩ := u8_of_wf (h z List.mem_cons_self)
    exact ⟨x :: l, by simp [h1], by rw [List.map_cons, h2]; rfl⟩
end Go.Proofs.Ytbleebiffpkcmaa
