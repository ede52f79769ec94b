/- Package disk: last, clear; what is settled by a flush or a crash: the plain part. -/
import Derived.Test.YtdinhcgkkoceiaaDiskF
namespace Go.Proofs.Ytdinhcgkkoceiaa
open Go.RowKit Go.Shelf
attribute [local go_sem] Oper.semAt_some

section
variable {w W W1 : World} {p : Nat} {F : Nat → Prop} {q : Nat} {S : Nat → List UInt8} {C : Nat → List (List UInt8)} {n : Nat} {dn : Bool} {ms mc : Nat} {fS fC : Int → Option Value} {qS qC : Nat}

/-- the sure sectors turned, the cache emptied -/
theorem dk_settle (h : DkIn w p F q S C n dn ms mc fS fC qS qC) (hc : Chg (fun g => g = ms) w W) {fS' : Int → Option Value} {qS' : Nat} (hM : VM Try.prog 3 W ms qS' fS') (hq : qS' ≤ q)
    (hks : ∀ i v, fS' i = some v → 0 ≤ i ∧ i < 34) {S' : Nat → List UInt8} (hsv : ∀ i : Nat, i < 34 → ∃ l, SV w F ((fS' (i : Int)).getD nilS) l ∧ l.length ≤ 64 ∧ S' i = pad l)
    (hM1 : VM Try.prog 3 W1 mc 0 (fun _ => none)) (hg : W.grownBy W1 (some mc)) :
    Dk (W1.setCell ⟨p, 2, none⟩ (.int .i64 0)) p F q S' (fun _ => []) 0 dn ∧ Chg F w (W1.setCell ⟨p, 2, none⟩ (.int .i64 0)) := by
  have hp := h.pmc
  have hps := h.pms
  have hne := h.ne
  have hc1 : Chg (fun g => g = mc) W W1 := Chg.of_grown hg rfl
  have hc2 : Chg (fun g => g = p) W1 (W1.setCell ⟨p, 2, none⟩ (.int .i64 0)) := Chg.setCell (G := fun g => g = p) W1 (a := ⟨p, 2, none⟩) rfl _
  have hc01 : Chg (fun g => g = ms ∨ g = mc) w W1 := (hc.mono (fun g hg => .inl hg)).trans hc1 (fun g hg => .inl (.inr hg))
  have hc02 : Chg (fun g => g = ms ∨ g = mc ∨ g = p) w (W1.setCell ⟨p, 2, none⟩ (.int .i64 0)) := (hc01.mono (fun g hg => hg.elim .inl (fun h => .inr (.inl h)))).trans hc2 (fun g hg => .inl (.inr (.inr hg)))
  have hGF : ∀ g, (g = ms ∨ g = mc ∨ g = p) → F g := by
    rintro g (rfl | rfl | rfl)
    · exact h.fs
    · exact h.fc
    · exact h.fp
  refine ⟨⟨ms, mc, fS', fun _ => none, qS', 0, ?_⟩, hc02.mono hGF⟩
  exact { blk := (h.blk.chg hc01 (fun e => e.elim hps hp)).set_ 2 _, sure := (hM.chg hc1 (fun e => hne e)).chg hc2 (fun e => hps e.symm), cache := hM1.chg hc2 (fun e => hp e.symm), qs := by omega, ne := hne,
          fp := h.fp, fs := h.fs, fc := h.fc, fl := fun g hg => Nat.lt_of_lt_of_le (h.fl g hg) hc02.size, ks := hks, kc := fun i v hv => (by cases hv),
          sv := fun i hi => by obtain ⟨l, h1, h2⟩ := hsv i hi; exact ⟨l, h1.chg hc02 (fun g hg => .inl (hGF g hg)) (fun g hg => .inl hg), h2⟩,
          c0 := fun _ _ _ => rfl, cr := fun i v hv => (by cases hv), cd := fun i j u v _ hu => (by cases hu) }

/-- the newest write of each entry of the cache -/
theorem DkIn.newest (h : DkIn w p F q S C n dn ms mc fS fC qS qC) (hC : ∀ i, i < 34 → (C i).length ≤ 1000000) : ∃ lv : Int → Value, ∀ i v, fC i = some v →
    (∃ g m cap, v = .slice (some ⟨g, 0, none⟩) m cap ∧ 0 < m ∧ m ≤ 1000000 ∧ g < w.heap.size ∧ g ≠ ms ∧ w.cell? ⟨g, m - 1, none⟩ = some (lv i)) ∧ (∀ k : Nat, i = (k : Int) → SV w F (lv i) (cur S C k) ∧ (cur S C k).length = 64) := by
  refine Classical.axiomOfChoice (r := fun (i : Int) (u : Value) => ∀ v, fC i = some v → (∃ g m cap, v = .slice (some ⟨g, 0, none⟩) m cap ∧ 0 < m ∧ m ≤ 1000000 ∧ g < w.heap.size ∧ g ≠ ms ∧ w.cell? ⟨g, m - 1, none⟩ = some u) ∧ (∀ k : Nat, i = (k : Int) → SV w F u (cur S C k) ∧ (cur S C k).length = 64)) (fun i => ?_)
  cases hf : fC i with
  | none => exact ⟨nilS, fun v hv => by cases hv⟩
  | some v =>
    have hi := h.kc i v hf
    obtain ⟨k, rfl⟩ : ∃ k : Nat, i = (k : Int) := ⟨i.toNat, by omega⟩
    obtain ⟨⟨xs, hrow, hxs⟩, hne, gb, hgb, hgF, hgp, hgms, hgmc⟩ := h.cr k v hf
    have hm0 : 0 < (C k).length := by
      cases hc : C k with
      | nil => exact absurd hc hne
      | cons a b => simp
    obtain ⟨g, c, rfl, hmc, -, -, hAx⟩ := own_shape hrow hm0
    have hxl : xs.length = (C k).length := by have := hrow.1; omega
    obtain ⟨u, hu⟩ : ∃ u, xs[(C k).length - 1]? = some u := ⟨_, List.getElem?_eq_getElem (by omega)⟩
    obtain ⟨l1, hl1⟩ : ∃ l1, (C k)[(C k).length - 1]? = some l1 := ⟨_, List.getElem?_eq_getElem (by omega)⟩
    obtain ⟨hsv, h64⟩ := hxs _ u l1 hu hl1
    obtain ⟨b', o', e', hlt, hcl⟩ := hAx.all (by omega)
    cases e'
    have hg' : gb = g := by simp only [Value.ownBlock, Option.some.injEq] at hgb; exact hgb.symm
    subst hg'
    refine ⟨u, fun v' hv' => ?_⟩
    cases hv'
    refine ⟨⟨gb, (C k).length, c, rfl, hm0, hC k (by omega), hlt, hgms, by have := hcl _ u hu; simpa using this⟩, fun k' hk' => ?_⟩
    have : k' = k := by omega
    subst this
    have hcur : cur S C k' = l1 := by
      unfold cur
      rw [List.getLastD_eq_getLast?, List.getLast?_eq_getElem?, hl1]; rfl
    rw [hcur]
    exact ⟨hsv, h64⟩
end

theorem fold_get {fC : Int → Option Value} {lv : Int → Value} (ys : List (LV fC lv)) : ∀ (f : Int → Option Value) (i : Int), ys.foldl (fun f x => fput f x.1.1 x.1.2) f i = if ys.any (fun x => x.1.1 == i) then some (lv i) else f i := by
  induction ys with
  | nil => intro f i; simp
  | cons y ys ih =>
    intro f i
    rw [List.foldl_cons, ih]
    simp only [List.any_cons]
    by_cases h : ys.any (fun x => x.1.1 == i) = true
    · simp [h]
    · simp only [h, Bool.or_false]
      unfold fput
      by_cases hy : i = y.1.1
      · subst hy
        have := y.2.2
        simp [this]
      · have : (y.1.1 == i) = false := by simp; omega
        simp [hy, this]

set_option maxRecDepth 100000 in
set_option maxHeartbeats 1000000 in
theorem last_any (p : Nat) (w : World) :
    Calls Try.prog 20 #[.pointer (some ⟨p, 0, none⟩)] w fun e w' => e = .returned (.func (.func 24) #[] #[.pointer (some ⟨w.heap.size, 0, none⟩)]) ∧ w' = w.alloc (.cells #[.pointer (some ⟨p, 0, none⟩)] 25) := by
  go_enter Try.func20, Try.ntmps20
  go_wp2
  go_ret
  exact ⟨rfl, rfl⟩

set_option maxRecDepth 100000 in
set_option maxHeartbeats 1000000 in
theorem dclear_any (p ms mc n q : Nat) (dn : Bool) (fC : Int → Option Value) (w : World) (hB : Blk w p 46 (dkc ms mc n dn)) (hM : VM Try.prog 3 w mc q fC) (hne : p ≠ mc) :
    Calls Try.prog 21 #[.pointer (some ⟨p, 0, none⟩)] w fun e w' => (∃ v, e = .returned v) ∧ ∃ w1, VM Try.prog 3 w1 mc 0 (fun _ => none) ∧ w.grownBy w1 (some mc) ∧ w' = w1.setCell ⟨p, 2, none⟩ (.int .i64 0) := by
  have c1 : w.cell? ⟨p, 1, none⟩ = some (.map (some mc)) := hB.cell 1
  obtain ⟨w1, hrun0, hM1, hg1, hs1⟩ := hM.clear (t := 44) (e := 52) Try.underlying44 0
  have hrun : ∀ ty, (Builtin.clear_ #[44] ty #[.map (some mc)]).run Try.prog w = .ok (.tuple #[]) w1 := fun ty => hrun0
  have hB1 := hB.chg (Chg.of_grown (G := fun g => g = mc) hg1 rfl) hne
  have c2 : w1.cell? ⟨p, 2, none⟩ = some (.int .i64 (n : Int)) := hB1.cell 2
  have f2 := hB1.frozen 2
  have HM1 := Lib.hid hM1
  have Hg1 := Lib.hid hg1
  clear hB hM hB1 hM1 hg1 hs1 hrun0
  go_enter Try.func21, Try.ntmps21
  go_wp2
  go_end0
  exact ⟨⟨_, rfl⟩, w1, HM1.out, Hg1.out, rfl⟩
end Go.Proofs.Ytdinhcgkkoceiaa
