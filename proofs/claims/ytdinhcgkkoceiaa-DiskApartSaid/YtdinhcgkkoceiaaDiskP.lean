/- Package disk: what a write makes of a disk: the plain part. -/
import Derived.Test.YtdinhcgkkoceiaaDiskA
namespace Go.Proofs.Ytdinhcgkkoceiaa
open Go.RowKit

/-- C, with a write more at i -/
def cput (C : Nat → List (List UInt8)) (i : Nat) (l : List UInt8) : Nat → List (List UInt8) := fun j => if j = i then C i ++ [l] else C j

section
variable {w : World} {p : Nat} {F : Nat → Prop} {q : Nat} {S : Nat → List UInt8} {C : Nat → List (List UInt8)} {n : Nat} {dn : Bool} {ms mc : Nat} {fS fC : Int → Option Value} {qS qC : Nat}

theorem DkIn.row (h : DkIn w p F q S C n dn ms mc fS fC qS qC) (i : Nat) (hi : i < 34) : ∃ xs, w.ownsRow 0 27 1 ((fC (i : Int)).getD nilS) (C i).length xs ∧
    (∀ (j : Nat) u l, xs[j]? = some u → (C i)[j]? = some l → SV w F u l ∧ l.length = 64) ∧ (∀ g, ((fC (i : Int)).getD nilS).ownBlock = some g → F g ∧ g ≠ p ∧ g ≠ ms ∧ g ≠ mc) := by
  cases hf : fC (i : Int) with
  | none =>
    rw [h.c0 i hi hf]
    exact ⟨[], World.ownsRow_nil _ _ _ _, fun j u l hu => by simp at hu, fun g hg => by simp [Value.ownBlock] at hg⟩
  | some v =>
    obtain ⟨⟨xs, h1, h2⟩, _, g, hg, h3⟩ := h.cr i v hf
    exact ⟨xs, h1, h2, fun g' hg' => by
      have : g' = g := by
        have e : some g' = some g := hg'.symm.trans hg
        cases e; rfl
      subst this; exact h3⟩

theorem dk_write (h : DkIn w p F q S C n dn ms mc fS fC qS qC) {i : Nat} (hi : i < 34) {l : List UInt8} (hl : l.length = 64) {xs : List Value}
    (hrow : w.ownsRow 0 27 1 ((fC (i : Int)).getD nilS) (C i).length xs) (hxs : ∀ (j : Nat) u l, xs[j]? = some u → (C i)[j]? = some l → SV w F u l ∧ l.length = 64)
    (hvb : ∀ g, ((fC (i : Int)).getD nilS).ownBlock = some g → F g ∧ g ≠ p ∧ g ≠ ms ∧ g ≠ mc)
    {w1 w2 w3 w4 : World} {gs : Nat} (h1 : Below w.heap.size w w1) (hgs : w.heap.size ≤ gs) (hB1 : Blk w1 gs 5 (bs l))
    (h2 : Below w1.heap.size w1 w2) (hsz2 : gs < w2.heap.size) {v' : Value} (hown : w3.ownsRow 0 27 1 v' ((C i).length + 1) (xs ++ [.slice (some ⟨gs, 0, none⟩) 64 64])) (hg3 : w2.grownBy w3 ((fC (i : Int)).getD nilS).ownBlock)
    (hat : v'.ownBlock = ((fC (i : Int)).getD nilS).ownBlock ∨ v'.ownBlock = some w2.heap.size) (hM4 : VM Try.prog 3 w4 mc (qC + 1) (fput fC (i : Int) v')) (hg4 : w3.grownBy w4 (some mc)) :
    ∃ F', Dk (w4.setCell ⟨p, 2, none⟩ (.int .i64 ((n + 1 : Nat) : Int))) p F' (q + 1) S (cput C i l) (n + 1) dn ∧ Chg F w (w4.setCell ⟨p, 2, none⟩ (.int .i64 ((n + 1 : Nat) : Int))) ∧ (∀ g, F' g → F g ∨ w.heap.size ≤ g) := by
  have hlen : (C i).length = xs.length := by have := hrow.1; omega
  have hb02 : Below w.heap.size w w2 := h1.trans (h2.mono h1.size)
  have hc3 : Chg (fun g => ((fC (i : Int)).getD nilS).ownBlock = some g) w2 w3 := ⟨hg3.os, hg3.tape, hg3.output, hg3.size, fun g hg hn => hg3.block g hg (fun e => hn e.symm)⟩
  have hc4 : Chg (fun g => g = mc) w3 w4 := Chg.of_grown hg4 rfl
  have hc5 : Chg (fun g => g = p) w4 (w4.setCell ⟨p, 2, none⟩ (.int .i64 ((n + 1 : Nat) : Int))) := Chg.setCell (G := fun g => g = p) w4 (a := ⟨p, 2, none⟩) rfl _
  generalize hV0 : (fC (i : Int)).getD nilS = v0 at *
  have hG : ∀ g, (v0.ownBlock = some g ∨ g = mc ∨ g = p) → F g := by
    intro g hg
    rcases hg with h | h | h
    · exact (hvb g h).1
    · rw [h]; exact ‹DkIn _ _ _ _ _ _ _ _ _ _ _ _ _ _›.fc
    · rw [h]; exact ‹DkIn _ _ _ _ _ _ _ _ _ _ _ _ _ _›.fp
  have hc04 : Chg (fun g => v0.ownBlock = some g ∨ g = mc) w w4 := ((Chg.of_below hb02).trans hc3 (fun g hg => .inl (.inl hg))).trans hc4 (fun g hg => .inl (.inr hg))
  have hc05 : Chg (fun g => v0.ownBlock = some g ∨ g = mc ∨ g = p) w (w4.setCell ⟨p, 2, none⟩ (.int .i64 ((n + 1 : Nat) : Int))) :=
    (hc04.mono (fun g hg => hg.elim .inl (fun h => .inr (.inl h)))).trans hc5 (fun g hg => .inl (.inr (.inr hg)))
  have hc35 : Chg (fun g => g = mc ∨ g = p) w3 (w4.setCell ⟨p, 2, none⟩ (.int .i64 ((n + 1 : Nat) : Int))) := (hc4.mono (fun g hg => .inl hg)).trans hc5 (fun g hg => .inl (.inr hg))
  have hsz : w.heap.size ≤ w2.heap.size := hb02.size
  -- the new row's block
  obtain ⟨gv, cv, hv', _, _, _, hAv⟩ := own_shape hown (by omega)
  have hgv : v'.ownBlock = some gv := by rw [hv']; rfl
  have hgv5 : gv < (w4.setCell ⟨p, 2, none⟩ (.int .i64 ((n + 1 : Nat) : Int))).heap.size := by
    obtain ⟨b', o', e, hlt, _⟩ := hAv.all (by simp)
    cases e
    have := hc35.size
    omega
  have hgvF : ∀ g, v'.ownBlock = some g → F g ∨ w2.heap.size ≤ g := by
    intro g hg
    rcases hat with h | h
    · rw [h] at hg; exact .inl (hvb g hg).1
    · rw [h] at hg; cases hg; exact .inr (Nat.le_refl _)
  have hp := h.pmc
  have hps := h.pms
  have hgvne : gv ≠ p ∧ gv ≠ ms ∧ gv ≠ mc := by
    rcases hat with h' | h'
    · rw [hgv] at h'; exact (hvb gv h'.symm).2
    · rw [hgv] at h'
      cases h'
      have a1 := h.fl p h.fp
      have a2 := h.fl ms h.fs
      have a3 := h.fl mc h.fc
      omega
  refine ⟨fun g => F g ∨ v'.ownBlock = some g, ⟨ms, mc, fS, fput fC (i : Int) v', qS, qC + 1, ?_⟩, hc05.mono hG, fun g hg => hg.elim .inl (fun h' => (hgvF g h').imp id (fun h'' => by omega))⟩
  have hFn : ∀ g, (F g ∨ v'.ownBlock = some g) → F g ∨ w.heap.size ≤ g := fun g hg => hg.elim .inl (fun h' => (hgvF g h').imp id (fun h'' => by omega))
  have hGn : ∀ g, (v0.ownBlock = some g ∨ g = mc ∨ g = p) → F g ∨ w.heap.size ≤ g := fun g hg => .inl (hG g hg)
  exact
    { blk := by
        have hb := h.blk.chg hc04 (fun hg => by
          rcases hg with h' | h'
          · exact (hvb p h').2.1 rfl
          · exact hp h')
        exact hb.set_ 2 _
      sure := h.sure.chg hc05 (fun hg => by
        rcases hg with h' | h' | h'
        · exact (hvb ms h').2.2.1 rfl
        · exact h.ne h'
        · exact hps h'.symm)
      cache := hM4.chg hc5 (fun e => hp e.symm)
      qs := by have := h.qs; omega
      ne := h.ne
      fp := .inl h.fp
      fs := .inl h.fs
      fc := .inl h.fc
      fl := fun g hg => by
        rcases hg with h' | h'
        · have := h.fl g h'; have := hc05.size; omega
        · rw [hgv] at h'; cases h'; exact hgv5
      ks := h.ks
      kc := fun j v hj => by
        unfold fput at hj
        split at hj
        · omega
        · exact h.kc j v hj
      sv := fun j hj => by
        obtain ⟨l', h1', h2'⟩ := h.sv j hj
        exact ⟨l', h1'.chg hc05 hGn hFn, h2'⟩
      c0 := fun j hj hf => by
        unfold fput at hf
        split at hf
        · cases hf
        · rename_i hne
          unfold cput
          rw [if_neg (by omega)]
          exact h.c0 j hj hf
      cr := fun j v hf => by
        unfold fput at hf
        split at hf
        · rename_i hji
          have hji' : j = i := by omega
          subst hji'
          cases hf
          refine ⟨⟨xs ++ [.slice (some ⟨gs, 0, none⟩) 64 64], ?_, ?_⟩, ?_, gv, hgv, .inr hgv, hgvne⟩
          · unfold cput
            rw [if_pos rfl, List.length_append, List.length_singleton]
            exact own_chg hown hc35 (fun g hg hg' => by
              rw [hgv] at hg
              cases hg
              rcases hg' with h' | h'
              · exact hgvne.2.2 h'
              · exact hgvne.1 h')
          · intro k u l' hu hl'
            unfold cput at hl'
            rw [if_pos rfl] at hl'
            rcases Nat.lt_or_ge k xs.length with hk | hk
            · rw [List.getElem?_append_left hk] at hu
              rw [List.getElem?_append_left (by omega)] at hl'
              obtain ⟨a1, a2⟩ := hxs k u l' hu hl'
              exact ⟨a1.chg hc05 hGn hFn, a2⟩
            · rw [List.getElem?_append_right hk] at hu
              rw [List.getElem?_append_right (by omega)] at hl'
              have hk0 : k - xs.length = 0 := by
                rcases Nat.eq_zero_or_pos (k - xs.length) with h0 | h0
                · exact h0
                · rw [List.getElem?_eq_none (by simp; omega)] at hu; cases hu
              rw [hk0] at hu
              rw [hlen, hk0] at hl'
              simp only [List.getElem?_cons_zero, Option.some.injEq] at hu hl'
              subst hu
              subst hl'
              refine ⟨⟨some ⟨gs, 0, none⟩, 64, by rw [hl], by omega, by omega, ?_, ?_⟩, hl⟩
              · have hA : At w1 (some ⟨gs, 0, none⟩) (bs l) := hB1.at_ 0 _ (fun j u hu => by rw [Nat.zero_add]; exact hu)
                have hA2 := hA.below h2 (Nat.le_refl _)
                have hA3 := hA2.chg hc3 (fun a ha _ hg => by cases ha; have := h.fl _ (hvb _ hg).1; simp only at this; omega)
                exact hA3.chg hc35 (fun a ha _ hg => by
                  cases ha
                  have a1 := h.fl p h.fp
                  have a3 := h.fl mc h.fc
                  rcases hg with h' | h' <;> (simp only at h'; omega))
              · intro a ha _ hg
                cases ha
                rcases hg with h' | h'
                · have := h.fl _ h'; simp only at this; omega
                · rcases hgvF _ h' with h'' | h''
                  · have := h.fl _ h''; simp only at this; omega
                  · simp only at h''; omega
          · unfold cput; rw [if_pos rfl]; simp
        · rename_i hne
          obtain ⟨a1, a2, g, a3, a4, a5⟩ := h.cr j v hf
          have hji : ¬ j = i := by omega
          unfold cput
          rw [if_neg hji]
          refine ⟨a1.chg hc05 hGn hFn (fun g' hg' hn => ?_), a2, g, a3, .inl a4, a5⟩
          have : g' = g := by
            have e : some g' = some g := hg'.symm.trans a3
            cases e; rfl
          subst this
          rcases hn with h' | h' | h'
          · cases hfi : fC (i : Int) with
            | none => rw [hfi] at hV0; subst hV0; simp [Value.ownBlock] at h'
            | some u =>
              rw [hfi] at hV0
              simp only [Option.getD_some] at hV0
              subst hV0
              exact h.cd j i v u hji hf hfi (a3.trans h'.symm)
          · exact a5.2.2 h'
          · exact a5.1 h'
      cd := fun j k u v hjk hu hv => by
        have key : ∀ (j : Nat) u, ¬ j = i → fC (j : Int) = some u → u.ownBlock ≠ v'.ownBlock := by
          intro j u hji hf e
          obtain ⟨_, _, g, a3, a4, _⟩ := h.cr j u hf
          rcases hat with h' | h'
          · cases hfi : fC (i : Int) with
            | none => rw [hfi] at hV0; subst hV0; rw [a3, h'] at e; simp [Value.ownBlock] at e
            | some x =>
              rw [hfi] at hV0
              simp only [Option.getD_some] at hV0
              subst hV0
              exact h.cd j i u x hji hf hfi (e.trans h')
          · rw [a3, h'] at e
            cases e
            have := h.fl _ a4
            omega
        unfold fput at hu hv
        split at hu
        · rename_i h1'
          split at hv
          · omega
          · rename_i h2'
            cases hu
            exact fun e => key k v (by omega) hv e.symm
        · rename_i h1'
          split at hv
          · cases hv
            exact key j u (by omega) hu
          · exact h.cd j k u v hjk hu hv }
end
end Go.Proofs.Ytdinhcgkkoceiaa
