/- A slice of structs that came in, whatever their cells; a disk's acts. -/
import Derived.Test.YtdinhcgkkoceiaaRowsStruct
import Derived.Test.YtdinhcgkkoceiaaDiskS
namespace Go.Proofs.Ytdinhcgkkoceiaa
open Go.RowKit Go.WideShapes

section
variable {H : Type} {enc : TypeId × Value → H} {P : Program} {w : World} {base : Nat} {sp : Nat → Bool} {held : Bool}

theorem open_rows_any {t e : TypeId} {m fuel : Nat} {v : Value} {x : DataW H × List MemPlace} {Q : List Value → Prop} (ht : P.underlying t = some (.slice e)) (hc : P.cellsOf e = m)
    (hE : ∀ fuel cs x, DataW.trod enc P w base sp held fuel e cs = some x → Q cs ∧ cs.length = m)
    (h : DataW.trod enc P w base sp held fuel t [v] = some x) :
    ∃ a len cap, v = .slice a len cap ∧ len ≤ cap ∧ ∃ css : List (List Value), css.length = len ∧ (∀ cs ∈ css, Q cs ∧ cs.length = m) ∧ At w a css.flatten := by
  rcases DataW.trod_slice ht h with ⟨hcs, _⟩ | ⟨a, len, cap, elems, rest, n, _, hcs, _, _, hl, _, hlen, hel, _⟩
  · simp only [List.cons.injEq, and_true] at hcs
    exact ⟨none, 0, 0, hcs, Nat.le_refl _, [], by simp, by simp, At.nil⟩
  · simp only [List.cons.injEq, and_true] at hcs
    have hrow : ∀ j, j ≤ len → ∃ css : List (List Value), css.length = j ∧ (∀ cs ∈ css, Q cs ∧ cs.length = m) ∧ css.flatten.length = j * m ∧ ∀ i (hi : i < css.flatten.length), w.cell? (a.add i) = some css.flatten[i] := by
      intro j
      induction j with
      | zero => intro _; exact ⟨[], by simp, by simp, by simp, by simp⟩
      | succ j ih =>
        intro hj
        obtain ⟨css, hz1, hz2, hz4, hz3⟩ := ih (by omega)
        have h1 := hel j (by omega)
        rw [List.getElem?_eq_getElem (by omega), hc] at h1
        simp only [Option.bind_eq_some_iff] at h1
        obtain ⟨cs, hcs1, hcs2⟩ := h1
        obtain ⟨hq, hql⟩ := hE _ _ _ hcs2
        obtain ⟨_, _, hcell⟩ := World.cells?_some hcs1
        have hfl : (css ++ [cs]).flatten = css.flatten ++ cs := by simp
        refine ⟨css ++ [cs], by simp [hz1], ?_, by rw [hfl, List.length_append, hz4, hql, Nat.succ_mul], ?_⟩
        · intro z hz
          rcases List.mem_append.1 hz with h | h
          · exact hz2 z h
          · simp only [List.mem_singleton] at h; subst h; exact ⟨hq, hql⟩
        · intro i hi
          simp only [hfl] at hi ⊢
          rw [List.length_append] at hi
          by_cases hlt : i < css.flatten.length
          · rw [List.getElem_append_left hlt]; exact hz3 i hlt
          · rw [List.getElem_append_right (by omega)]
            have h2 := hcell (i - css.flatten.length) (by omega)
            rw [List.getElem?_eq_getElem (by omega)] at h2
            have h3 : (a.add (j * m)).add (i - css.flatten.length) = a.add i := by
              have : j * m + (i - css.flatten.length) = i := by omega
              rw [← this]
              unfold Addr.add
              repeat' split
              all_goals simp_all
              all_goals omega
            rw [h3] at h2
            rw [h2]
    obtain ⟨css, hz1, hz2, hz4, hz3⟩ := hrow len (Nat.le_refl _)
    refine ⟨some a, len, cap, hcs, hl, css, hz1, hz2, fun hn => ?_⟩
    have h0 := hz3 0 hn
    have hx : a = ⟨a.block, a.off, none⟩ := by
      have := cell_spot h0
      simp [Addr.add] at this
      cases a; simp_all
    refine ⟨a.block, a.off, by rw [← hx], fun j u hu => ?_⟩
    have hj : j < css.flatten.length := by
      rcases Nat.lt_or_ge j css.flatten.length with h | h
      · exact h
      · rw [List.getElem?_eq_none h] at hu; cases hu
    have := hz3 j hj
    rw [hx, addr_add] at this
    rw [this]
    rw [List.getElem?_eq_getElem hj] at hu
    exact hu

theorem bytes_of_trod {t e : TypeId} {fuel : Nat} {v : Value} {x : DataW H × List MemPlace} (ht : P.underlying t = some (.slice e)) (he : P.underlying e = some (.int .u8)) (hc : P.cellsOf e = 1)
    (h : DataW.trod enc P w base sp held fuel t [v] = some x) : ∃ A c, ∃ l : List UInt8, v = .slice A l.length c ∧ l.length ≤ c ∧ At w A (bs l) := by
  obtain ⟨a, len, cap, hv, hl, zs, hz1, hz2, hat⟩ := open_rows_ints (k := .u8) (m := 1) ht hc (fun fuel cs x h => by
    obtain ⟨z, hz, _, hw⟩ := DataW.trod_int he h
    exact ⟨[z], by simp [hz], rfl, fun y hy => by simp only [List.mem_singleton] at hy; subst hy; exact hw⟩) h
  obtain ⟨l, hl1, hl2⟩ := bytes_of_wf zs hz2
  rw [hl2] at hat
  have : len = l.length := by omega
  subst this
  exact ⟨a, cap, l, hv, hl, hat⟩
end

/-- a slice that came in, of acts -/
def IsActs (w : World) (a : Option Addr) (len cap : Nat) (L : List AV) : Prop := len ≤ cap ∧ L.length = len ∧ At w a (acells L) ∧ AReads w L

theorem acts_of {w : World} : ∀ css : List (List Value), (∀ cs ∈ css, (∃ x : AV, cs = x.cells ∧ At w x.B (bs x.l) ∧ x.l.length ≤ x.cb ∧ (kI x.n).wf = true) ∧ cs.length = 4) → ∃ L : List AV, L.length = css.length ∧ acells L = css.flatten ∧ AReads w L
  | [], _ => ⟨[], rfl, rfl, fun x hx => by cases hx⟩
  | cs :: css, h => by
    obtain ⟨L, h1, h2, h3⟩ := acts_of css (fun c hc => h c (List.mem_cons_of_mem _ hc))
    obtain ⟨⟨x, rfl, h5, h6, h7⟩, _⟩ := h cs List.mem_cons_self
    refine ⟨x :: L, by simp [h1], by rw [List.flatten_cons, ← h2]; rfl, fun y hy => ?_⟩
    rcases List.mem_cons.1 hy with rfl | hy
    · exact ⟨h5, h6, h7⟩
    · exact h3 y hy

theorem open_acts {H : Type} {enc : TypeId × Value → H} {w : World} {base : Nat} {sp : Nat → Bool} {held : Bool} {fuel : Nat} {v : Value} {x : DataW H × List MemPlace}
    (h : DataW.trod enc Try.prog w base sp held fuel 22 [v] = some x) : ∃ a len cap, v = .slice a len cap ∧ ∃ L, IsActs w a len cap L := by
  obtain ⟨a, len, cap, hv, hl, css, h1, h2, h3⟩ := open_rows_any (m := 4) (Q := fun cs => ∃ x : AV, cs = x.cells ∧ At w x.B (bs x.l) ∧ x.l.length ≤ x.cb ∧ (kI x.n).wf = true) Try.underlying22 (by kernel_rfl) (fun fuel cs x h => by
    obtain ⟨xs, m, _, _, hl, hlen, hf⟩ := DataW.trod_struct Try.underlying31 h
    have hl4 : cs.length = 4 := hl.trans (by kernel_rfl)
    obtain ⟨c0, c1, c2, c3, rfl⟩ : ∃ c0 c1 c2 c3, cs = [c0, c1, c2, c3] := by
      rcases cs with _ | ⟨c0, _ | ⟨c1, _ | ⟨c2, _ | ⟨c3, _ | ⟨c4, cs⟩⟩⟩⟩⟩ <;> simp at hl4
      exact ⟨c0, c1, c2, c3, rfl⟩
    have k1 : Try.prog.cellsOf 3 = 1 := by kernel_rfl
    have k2 : Try.prog.cellsOf 27 = 1 := by kernel_rfl
    have k3 : Try.prog.cellsOf 29 = 1 := by kernel_rfl
    have g1 := hf 1 { name := "N", type := 3, offset := 1, embedded := false, tag := "", pkgPath := "", byteOffset := 8 } rfl
    have g0 := hf 0 { name := "Do", type := 3, offset := 0, embedded := false, tag := "", pkgPath := "", byteOffset := 0 } rfl
    have g2 := hf 2 { name := "B", type := 27, offset := 2, embedded := false, tag := "", pkgPath := "", byteOffset := 16 } rfl
    have g3 := hf 3 { name := "Plan", type := 29, offset := 3, embedded := false, tag := "", pkgPath := "", byteOffset := 40 } rfl
    have hx4 : xs.length = 4 := hlen
    rw [List.getElem?_eq_getElem (by omega)] at g0 g1 g2 g3
    simp only [k1, k2, k3, List.drop_zero, List.drop_succ_cons, List.take_succ_cons, List.take_zero] at g0 g1 g2 g3
    obtain ⟨z0, e0, _, _⟩ := DataW.trod_int Try.underlying3 g0
    obtain ⟨z1, e1, _, hw1⟩ := DataW.trod_int Try.underlying3 g1
    obtain ⟨A, c, l, e2, hlc, hat⟩ := bytes_of_trod Try.underlying27 Try.underlying5 (by kernel_rfl) g2
    have e3 : ∃ P lp cp, c3 = .slice P lp cp := by
      rcases DataW.trod_slice Try.underlying29 g3 with ⟨hcs, _⟩ | ⟨a, len, cap, _, _, _, _, hcs, _⟩
      · simp only [List.cons.injEq, and_true] at hcs; exact ⟨_, _, _, hcs⟩
      · simp only [List.cons.injEq, and_true] at hcs; exact ⟨_, _, _, hcs⟩
    obtain ⟨P, lp, cp, e3⟩ := e3
    simp only [List.cons.injEq, and_true] at e0 e1
    exact ⟨⟨⟨z0, z1, A, l, c, P, lp, cp⟩, by rw [e0, e1, e2, e3]; rfl, hat, hlc, hw1⟩, rfl⟩) h

  obtain ⟨L, e1, e2, e3⟩ := acts_of css h2
  exact ⟨a, len, cap, hv, L, hl, by omega, by rw [e2]; exact h3, e3⟩
end Go.Proofs.Ytdinhcgkkoceiaa
