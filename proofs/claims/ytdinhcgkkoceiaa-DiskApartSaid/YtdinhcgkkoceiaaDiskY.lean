/- The walk of package disk's Copy. -/
import Derived.Test.YtdinhcgkkoceiaaDiskE
import Derived.Test.YtdinhcgkkoceiaaDiskW
import Derived.Test.YtdinhcgkkoceiaaDiskF
namespace Go.Proofs.Ytdinhcgkkoceiaa
open Go.RowKit Go.Shelf

def ctree : PT := .still 0 (.still 1 (.still 2 (.still 3 (.still 6 (.still 7 (.still 8 (.still 9 (.still 10 (.still 11 (.still 12 (.still 13 (.fork 4 (.alone 5 (.alone 14 (.alone 15 (.still 16 .nil)))) 5 (.alone 4 (.alone 14 (.alone 15 (.still 16 .nil))))))))))))))))

/-- an entry of the copy's cache -/
def CEnt (w : World) (F : Nat → Prop) (C : Nat → List (List UInt8)) (B : Nat) (wr : World) (i : Int) (v : Value) : Prop := ∀ k : Nat, i = (k : Int) →
  (∃ xs : List Value, wr.ownsRow 0 27 1 v (C k).length xs ∧ ∀ (j : Nat) u l, xs[j]? = some u → (C k)[j]? = some l → SV w F u l ∧ l.length = 64) ∧ ∃ g, v.ownBlock = some g ∧ B ≤ g ∧ g < wr.heap.size
theorem CEnt.chg {w : World} {F G : Nat → Prop} {C : Nat → List (List UInt8)} {B : Nat} {wr wr' : World} {i : Int} {v : Value} (h : CEnt w F C B wr i v) (hc : Chg G wr wr') (hG : ∀ g, G g → g < B) : CEnt w F C B wr' i v := by
  intro k hk
  obtain ⟨⟨xs, h1, h2⟩, g, h3, h4, h5⟩ := h k hk
  exact ⟨⟨xs, own_chg h1 hc (fun g' hg' hGg => by rw [h3] at hg'; cases hg'; have := hG _ hGg; omega), h2⟩, g, h3, h4, Nat.lt_of_lt_of_le h5 hc.size⟩

/-- the copy under way -/
structure Cp (w : World) (F : Nat → Prop) (C : Nat → List (List UInt8)) (fC : Int → Option Value) (B : Nat) (wr : World) (left : Lit → Bool) (fD : Int → Option Value) : Prop where
  all : ∀ i, (kI i).wf = true → fC i ≠ none → left (kI i) = true ∨ fD i ≠ none
  ent : ∀ i v, fD i = some v → fC i ≠ none ∧ CEnt w F C B wr i v
  ne : ∀ i j u v, i ≠ j → fD i = some u → fD j = some v → u.ownBlock ≠ v.ownBlock

theorem copy_done {w wr : World} {p p' ms mc ms' mc' : Nat} {F : Nat → Prop} {q : Nat} {S : Nat → List UInt8} {C : Nat → List (List UInt8)} {n : Nat} {dn : Bool} {fS fC fD : Int → Option Value} {qS qC qD B : Nat} {left : Lit → Bool}
    (h : DkIn w p F q S C n dn ms mc fS fC qS qC) (hb : Below w.heap.size w wr) (hB : Blk wr p' 46 (dkc ms' mc' n dn)) (hS : VM Try.prog 3 wr ms' qS fS) (hD : VM Try.prog 3 wr mc' qD fD) (hq : qD ≤ qC)
    (hl : ∀ kl, left kl = false) (hc : Cp w F C fC B wr left fD) (h1 : w.heap.size ≤ p') (h2 : w.heap.size ≤ ms') (h3 : w.heap.size ≤ mc') (hn : ms' ≠ mc') (hp : p' < B) (hm : ms' < B) (hmc : mc' < B) :
    Dk wr p' (fun g => w.heap.size ≤ g ∧ g < wr.heap.size) q S C n dn := by
  have hcg : Chg (fun _ => False) w wr := Chg.of_below hb
  have hBw : w.heap.size ≤ B := by omega
  have hsv : ∀ {v l}, SV w F v l → SV wr (fun g => w.heap.size ≤ g ∧ g < wr.heap.size) v l := fun hs => hs.chg hcg (fun g hg => hg.elim) (fun g hg => .inr hg.1)
  refine ⟨ms', mc', fS, fD, qS, qD, ?_⟩
  exact { blk := hB, sure := hS, cache := hD, qs := by have := h.qs; omega, ne := hn, fp := ⟨h1, hB.lt⟩, fs := ⟨h2, hS.lt⟩, fc := ⟨h3, hD.lt⟩, fl := fun g hg => hg.2, ks := h.ks,
          kc := fun i v hv => by
            have := (hc.ent i v hv).1
            cases hf : fC i with
            | none => exact absurd hf this
            | some u => exact h.kc i u hf
          sv := fun i hi => by obtain ⟨l, a, b⟩ := h.sv i hi; exact ⟨l, hsv a, b⟩
          c0 := fun i hi hv => by
            cases hf : fC (i : Int) with
            | none => exact h.c0 i hi hf
            | some u =>
              rcases hc.all (i : Int) (wfI (by omega) (by omega)) (by rw [hf]; simp) with h5 | h5
              · rw [hl] at h5; cases h5
              · exact absurd hv h5
          cr := fun i v hv => by
            obtain ⟨h5, h6⟩ := hc.ent _ v hv
            obtain ⟨⟨xs, h7, h8⟩, g, h9, h10, h11⟩ := h6 i rfl
            refine ⟨⟨xs, h7, fun j u l hu hl => ⟨hsv (h8 j u l hu hl).1, (h8 j u l hu hl).2⟩⟩, ?_, g, h9, ⟨by omega, h11⟩, by omega, by omega, by omega⟩
            cases hf : fC (i : Int) with
            | none => exact absurd hf h5
            | some u => exact (h.cr i u hf).2.1
          cd := fun i j u v hij hu hv => hc.ne _ _ u v (by omega) hu hv }

theorem Cp.put {w wr w4 : World} {p ms mc : Nat} {F G : Nat → Prop} {q : Nat} {S : Nat → List UInt8} {C : Nat → List (List UInt8)} {n : Nat} {dn : Bool} {fS fC fD : Int → Option Value} {qS qC B : Nat} {left : Lit → Bool}
    (h : DkIn w p F q S C n dn ms mc fS fC qS qC) (hc : Cp w F C fC B wr left fD) (hch : Chg G wr w4) (hG : ∀ g, G g → g < B) {i0 : Nat} {c v : Value} (hf : fC (i0 : Int) = some c) (hent : CEnt w F C B w4 i0 v) (hv : ∃ g, v.ownBlock = some g ∧ wr.heap.size ≤ g) :
    Cp w F C fC B w4 (fun z => left z && !z.sameKey (kI i0)) (fput fD i0 v) := by
  obtain ⟨g0, hv0, hv1⟩ := hv
  have hlow : ∀ i u, fD i = some u → v.ownBlock ≠ u.ownBlock := by
    intro i u hu e
    obtain ⟨h1, h2⟩ := hc.ent i u hu
    obtain ⟨k, rfl⟩ : ∃ k : Nat, i = (k : Int) := by
      cases hfi : fC i with
      | none => exact absurd hfi h1
      | some y => have := h.kc i y hfi; exact ⟨i.toNat, by omega⟩
    obtain ⟨-, g, h3, h4, h5⟩ := h2 k rfl
    rw [hv0, h3] at e
    cases e
    omega
  refine ⟨fun i hw hi => ?_, fun i u hu => ?_, fun i j u u' hij hu hu' => ?_⟩
  · by_cases hix : i = i0
    · right; unfold fput; rw [if_pos hix]; simp
    · rcases hc.all i hw hi with h1 | h1
      · left; rw [h1, Maps.sameKey_ne (kI_ne hix)]; rfl
      · right; unfold fput; rw [if_neg hix]; exact h1
  · unfold fput at hu
    split at hu
    · next hix => subst hix; cases hu; exact ⟨by rw [hf]; simp, hent⟩
    · exact ⟨(hc.ent i u hu).1, (hc.ent i u hu).2.chg hch hG⟩
  · unfold fput at hu hu'
    split at hu
    · next hix =>
      cases hu
      rw [if_neg (by omega)] at hu'
      exact hlow j u' hu'
    · split at hu'
      · cases hu'
        exact fun e => hlow i u hu e.symm
      · exact hc.ne i j u u' hij hu hu'

theorem ranges_blk {H : Type} {P : Program} {k : TypeId} {R : Value → Option (DataW H × List MemPlace)} {w w' : World} {b r n : Nat} {D : DataW H} {left : Lit → Bool} {cnt : Nat}
    (h : w.ranges P k R b r n D left cnt) (hb : w'.heap[b]? = w.heap[b]?) (hr : w'.heap[r]? = w.heap[r]?) : w'.ranges P k R b r n D left cnt := by
  obtain ⟨es, clock, since, seen, c0, hb', F, hs, hD, hr', rest⟩ := h
  exact ⟨es, clock, since, seen, c0, hb.trans hb', F, hs, hD, hr.trans hr', rest⟩

theorem then_gen {Q : Exit → Act → World → Prop} {K' : Act → World → Prop} {c : Exit} {a : Act} {w : World} (Φ : World → Prop) (hx : Φ w) (h : ∀ W, Φ W → Exit.then K' Q c a W) : Exit.then K' Q c a w := h w hx

set_option maxRecDepth 100000 in
set_option maxHeartbeats 8000000 in
theorem dcopy_ok (p : Nat) (F : Nat → Prop) (q : Nat) (S : Nat → List UInt8) (C : Nat → List (List UInt8)) (k : Nat) (dn : Bool) (w : World)
    (hD : Dk w p F q S C k dn) (hC : ∀ i, i < 34 → (C i).length ≤ 1000000) (hq : q < 1000000) :
    Calls Try.prog 14 #[.pointer (some ⟨p, 0, none⟩)] w fun e w' => ∃ p' F', e = .returned (.pointer (some ⟨p', 0, none⟩)) ∧ Dk w' p' F' q S C k dn ∧ (∀ g, F' g → w.heap.size ≤ g) ∧ Below w.heap.size w w' := by
  obtain ⟨ms, mc, fS, fC, qS, qC, h⟩ := hD
  have hmm := @run_makeMap Try.prog
  have bl := fun (w : World) (x y : Nat) => run_build (P := Try.prog) w 46 #[(0, .map (some x)), (1, .map (some y)), (2, .int .i64 (k : Int)), (3, .bool dn)] (dkc x y k dn).toArray (by kernel_rfl)
  have c0 : ∀ w', Below w.heap.size w w' → w'.cell? ⟨p, 0, none⟩ = some (.map (some ms)) := fun w' hw => (h.keep hw).blk.cell 0
  have c2 : ∀ w', Below w.heap.size w w' → w'.cell? ⟨p, 2, none⟩ = some (.int .i64 (k : Int)) := fun w' hw => (h.keep hw).blk.cell 2
  have c3 : ∀ w', Below w.heap.size w w' → w'.cell? ⟨p, 3, none⟩ = some (.bool dn) := fun w' hw => (h.keep hw).blk.cell 3
  have H := Lib.hid h
  have HC := Lib.hid hC
  have HQ := Lib.hid hq
  clear h hC hq
  go_enter Try.func14, Try.ntmps14
  go_wp2_with fail
  have hbd : Below w.heap.size w w.drew := (Below.refl _ _).drew
  refine region_tree (S := fun w' => Below w.heap.size w w') ctree (by kernel_rfl) (by kernel_rfl) (by kernel_rfl) (by decide) hbd ?_
  unfold ctree
  iterate 12
    refine tree_still2 (v := ?_) (a' := ?_) rfl (by rfl) (fun w' hS' => ?_) ?_ ?_
    rotate_left 2
    (focus (simp only [nth_succ, nth_zero]; have e0 := c0 w' hS'; have e2 := c2 w' hS'; have e3 := c3 w' hS'; go_simp <;> with_reducible rfl))
    (focus (simp only [nth_succ, nth_zero, Act.put, List.setIfInBounds_toArray, List.set_cons_zero, List.set_cons_succ] <;> rfl))
  refine tree_fork rfl (by rfl) (by rfl) (fun K hK => ?_) (fun K hK => ?_)
  · simp only [nth_succ, nth_zero]
    go_simp
    refine (mclone_any ms qS fS _ (H.out.keep hbd).sure).mono ?_
    rintro e w1 ⟨rfl, hM1, hs1, hb1⟩
    have hbw1 : Below w.heap.size w w1 := (hbd).trans (hb1.mono (hbd).size)
    refine hK.out _ _ hbw1 ?_
    clear hK K
    refine tree_alone rfl (by rfl) (fun K hK => ?_)
    simp only [nth_succ, nth_zero]
    go_simp
    refine hK.out _ _ (hbw1.alloc hbw1.size _) ?_
    clear hK K
    refine tree_alone rfl (by rfl) (fun K hK => ?_)
    simp only [nth_succ, nth_zero]
    go_simp
    refine hK.out _ _ (hbw1.alloc hbw1.size _) ?_
    clear hK K
    refine tree_alone rfl (by rfl) (fun K hK => ?_)
    simp only [nth_succ, nth_zero]
    go_simp
    refine hK.out _ _ ((hbw1.alloc hbw1.size _).alloc (hbw1.alloc hbw1.size _).size _) ?_
    clear hK K
    refine tree_still2 (v := ?_) (a' := ?_) rfl (by rfl) (fun w' hS' => ?_) ?_ ?_
    rotate_left 2
    (focus (simp only [nth_succ, nth_zero]; go_simp <;> with_reducible rfl))
    (focus (simp only [nth_succ, nth_zero, Act.put, List.setIfInBounds_toArray, List.set_cons_zero, List.set_cons_succ] <;> rfl))
    refine tree_nil ?_
    refine then_gen (fun W => VM Try.prog 3 W w.heap.size qS fS ∧ VM Try.prog 3 W (w.heap.size + 1) 0 (fun _ => none) ∧ Blk W (w.heap.size + 1 + 1) 46 (dkc w.heap.size (w.heap.size + 1) k dn) ∧ Below w.heap.size w W) (by
      have hz : w1.heap.size = w.heap.size + 1 := hs1
      refine ⟨hM1.block (by rw [Below.heap_alloc _ _ _ (by simp; omega), Below.heap_alloc _ _ _ (by simp; omega)]), ?_, ?_, ?_⟩
      · have := VM.made w1 Try.prog 3; rw [hz] at this; exact this.block (by rw [Below.heap_alloc _ _ _ (by simp; omega)])
      · have := Blk.new (w1.alloc (.map #[] 0)) 46 (dkc w.heap.size (w.heap.size + 1) k dn); rw [World.size_alloc, hz] at this; exact this
      · exact (hbw1.alloc hbw1.size _).alloc (hbw1.alloc hbw1.size _).size _
      ) ?_
    clear c0 c2 c3 hmm bl hM1 hb1 hbw1 hs1
    rintro W ⟨hM1, hM2, hB, hb⟩
    have hS : w.heap.size ≤ (w.heap.size + 1 + 1) ∧ w.heap.size ≤ w.heap.size ∧ w.heap.size ≤ (w.heap.size + 1) ∧ w.heap.size ≠ (w.heap.size + 1) := by omega
    have HS := Lib.hid hS
    clear hS
    have p1 : W.cell? ⟨(w.heap.size + 1 + 1), 1, none⟩ = some (.map (some (w.heap.size + 1))) := hB.cell 1
    have c1 : W.cell? ⟨p, 1, none⟩ = some (.map (some mc)) := (H.out.keep hb).blk.cell 1
    obtain ⟨D, hown, hsays⟩ := (H.out.keep hb).cache
    have HSA := Lib.hid hsays
    have HM1 := Lib.hid hM1
    have HM2 := Lib.hid hM2
    have HB := Lib.hid hB
    have Hbb := Lib.hid hb
    have hsz : Maps.size D ≤ qC := hown.size_le
    clear hM1 hM2 hB hb hsays
    have HPS := Lib.hid (show (w.heap.size + 1 + 1) < W.heap.size ∧ w.heap.size < W.heap.size ∧ (w.heap.size + 1) < W.heap.size ∧ (w.heap.size + 1 + 1) ≠ (w.heap.size + 1) ∧ mc < w.heap.size from ⟨HB.out.lt, HM1.out.lt, HM2.out.lt, by omega, H.out.cache.lt⟩)
    go_wp2_with (first
      | (refine wpList_range_own _ rfl (.tmp 27) 44 rfl 3 52 (Maps.int_keyed Try.underlying3) Try.underlying44 _ mc qC _ rfl hown ?_; intro w0 hrg0 hg0 hs0))
    try go_frame
    go_loopw [4, 5] (fun _ _ wr => ∃ (left : Lit → Bool) (cnt qD : Nat) (fD : Int → Option Value), wr.ranges Try.prog 3 heldV mc W.heap.size qC D left cnt ∧ qD + cnt ≤ Maps.size D ∧ Hid (VM Try.prog 3 wr (w.heap.size + 1) qD fD) ∧ Hid (Cp w F C fC (W.heap.size + 1) wr left fD) ∧ Hid (Chg (fun g => g = (w.heap.size + 1) ∨ g = W.heap.size) w0 wr))
      (fun _ _ wr => wr.rangeLeft mc W.heap.size)
    case atStart =>
      refine ⟨_, _, 0, fun _ => none, hrg0, by simp, HM2.out.chg (Chg.of_below (G := fun _ => False) ⟨hg0.os, hg0.tape, hg0.output, hg0.size, fun g hg => hg0.block g hg (by simp)⟩) id, ⟨fun i _ hi => .inl ?_, fun i v hv => (by cases hv), fun i j u v _ hu => (by cases hu)⟩, Chg.refl _ _⟩
      rw [(HSA.out i).1]
      cases hf : fC i with
      | none => exact absurd hf hi
      | some v => rfl
    case round =>
      obtain ⟨left, cnt, qD, fD, hrg, hcs, HMD, HCp, Hcg⟩ := hrel
      have Hbr := Lib.hid (show Below w.heap.size w wr from (Hbb.out.trans ((show Below W.heap.size W w0 from ⟨hg0.os, hg0.tape, hg0.output, hg0.size, fun g hg => hg0.block g hg (by simp)⟩).mono Hbb.out.size)).trans (Hcg.out.below (fun g hg => by have := HS.out; have := Hbb.out.size; omega) (by have := Hbb.out.size; omega)))
      go_wp2_with (first
        | (refine wpList_next_ranges _ rfl (.tmp 28) rfl 3 (Maps.int_keyed Try.underlying3) heldV (Value.int .i64) (fun v : Value => v) (fun key kl hk => by obtain ⟨x, hx, _⟩ := Maps.keyOf_int_inv Try.underlying3 hk; exact ⟨x, hx⟩) (fun v y _ => ⟨v, rfl⟩) mc W.heap.size qC _ _ _ rfl hrg ?_ ?_))
      · intro hc0 hl0
        have HL0 := Lib.hid hl0
        clear hl0
        go_wp2_with fail
        go_ret
        have hc0w := Chg.of_below (G := fun _ => False) (show Below W.heap.size W w0 from ⟨hg0.os, hg0.tape, hg0.output, hg0.size, fun g hg => hg0.block g hg (by simp)⟩)
        have hps := HPS.out
        have hss := HS.out
        exact ⟨(w.heap.size + 1 + 1), _, rfl, (copy_done H.out Hbr.out ((HB.out.chg hc0w id).chg Hcg.out (by omega)) ((HM1.out.chg hc0w id).chg Hcg.out (by omega)) HMD.out (by omega) HL0.out HCp.out hss.1 hss.2.1 hss.2.2.1 hss.2.2.2 (by omega) (by omega) (by omega)), fun g hg => hg.1, Hbr.out⟩
      · intro x c kl yd yp w2 cnt2 hkey hlk hv hat hrg2 hlt hg2 hs2 hen
        obtain ⟨x', ex, rfl, hwx⟩ := Maps.keyOf_int_inv Try.underlying3 hkey
        cases ex
        have hy : yd = .held c := by cases hv; rfl
        have hfx : fC x = some c := by
          obtain ⟨h1, h2⟩ := HSA.out x
          have h3 : Maps.has D (kI x) = true := Maps.has_true_of_atKey hat
          rw [h3] at h1
          cases hf : fC x with
          | none => rw [hf] at h1; cases h1
          | some v =>
            have h4 := h2 v hf .nil
            rw [hat .nil] at h4
            simp only [hy] at h4
            injection h4 with h4
            rw [h4]
        have hkx := H.out.kc x c hfx
        obtain ⟨i0, rfl⟩ : ∃ i0 : Nat, x = (i0 : Int) := ⟨x.toNat, by omega⟩
        obtain ⟨⟨xs, hrow, hxs⟩, hne, gr, hgr, -⟩ := H.out.cr i0 c hfx
        have hm0 : 0 < (C i0).length := by cases hc : C i0 with | nil => exact absurd hc hne | cons a b => simp
        have hxl : (C i0).length = xs.length := by have := hrow.1; omega
        have hcw2 : Chg (fun g => g = W.heap.size) wr w2 := Chg.of_grown (G := fun g => g = W.heap.size) hg2 rfl
        have Hb2 := Lib.hid (Hbr.out.trans ((hcw2.below (B := w.heap.size) (fun g hg => by have := Hbb.out.size; omega) (Hbr.out.size)).mono (Nat.le_refl _)))
        obtain ⟨g, cap, rfl, hmcap, -, -, hAx⟩ := own_shape (own_below hrow Hb2.out) hm0
        have hc0w := Chg.of_below (G := fun _ => False) (show Below W.heap.size W w0 from ⟨hg0.os, hg0.tape, hg0.output, hg0.size, fun g hg => hg0.block g hg (by simp)⟩)
        have hps := HPS.out
        have hss := HS.out
        have HB2 := Lib.hid (((HB.out.chg hc0w id).chg Hcg.out (by omega)).chg hcw2 (by omega))
        have HMD2 := Lib.hid (HMD.out.chg hcw2 (by omega))
        have hp2 : w2.drew.cell? ⟨(w.heap.size + 1 + 1), 1, none⟩ = some (.map (some (w.heap.size + 1))) := HB2.out.cell 1
        have HXS := Lib.hid hxs
        have HAx := Lib.hid hAx
        have HXL := Lib.hid hxl
        have HFX := Lib.hid hfx
        have h1c : ∀ u ∈ xs, u.oneCell' = true := by
          intro u hu
          obtain ⟨j, hj, e⟩ := List.getElem_of_mem hu
          obtain ⟨⟨A, c', e', -⟩, -⟩ := hxs j u (C i0)[j] (by rw [List.getElem?_eq_getElem hj, e]) (List.getElem?_eq_getElem (by omega))
          rw [e']; rfl
        have H1C := Lib.hid h1c
        have Hkx := Lib.hid hkx
        have HW1 := Lib.hid hwx
        have HS2 := Lib.hid hs2
        have Hw0 := Lib.hid hs0
        have HPS' := Lib.hid hps
        have hm0' := Lib.hid hm0
        clear hxs hrow hgr hAx hxl hfx hkx hc0w hps hss h1c hv hat hy hs2 hne hmcap hm0 hwx
        go_wp2_with fail
        refine region_plan (S := fun w' => w'.cell? ⟨(w.heap.size + 1 + 1), 1, none⟩ = some (.map (some (w.heap.size + 1)))) [(true, 0), (true, 1), (true, 2), (true, 3), (true, 4), (true, 5), (false, 6), (false, 7)] (by kernel_rfl) (by kernel_rfl) (by kernel_rfl) rfl hp2 ?_
        simp only [planned_nil, planned_cons, nth_zero, nth_succ]
        iterate 6
          refine plan_still2 (v := ?_) (a' := ?_) (by rfl) (fun w' hS' => ?_) ?_ ?_
          rotate_left 2
          (focus (go_simp <;> with_reducible rfl))
          (focus (simp only [Act.put, List.setIfInBounds_toArray, List.set_cons_zero, List.set_cons_succ] <;> rfl))
        refine plan_do (by rfl) (fun K' hK' => ?_)
        go_simp
        refine (sclone_any (some ⟨g, 0, none⟩) xs _ cap _ (show At w2.drew (some ⟨g, 0, none⟩) xs from HAx.out) HXL.out hm0'.out H1C.out (HC.out i0 (by have := Hkx.out; omega))).mono ?_
        rintro e w3 ⟨v, rfl, hown3, hb3⟩
        have hc3 : Chg (fun _ => False) w2 w3 := (Chg.refl _ w2).drew.trans (Chg.of_below (G := fun _ => False) hb3) (fun g hg => .inl hg)
        refine hK'.out _ _ ((HB2.out.chg hc3 id).cell 1) ?_
        clear hK' K'
        obtain ⟨w4, hst, hM4, hg4, -⟩ := (HMD2.out.chg hc3 id).store (t := 44) (e := 52) Try.underlying3 Try.underlying44 (by have := HQ.out; have := H.out.qs; unfold maxLen; omega) HW1.out v
        have hc4 : Chg (fun g => g = (w.heap.size + 1)) w3 w4 := Chg.of_grown (G := fun g => g = (w.heap.size + 1)) hg4 rfl
        refine plan_do (by rfl) (fun K' hK' => ?_)
        go_simp
        refine hK'.out _ _ (((HB2.out.chg hc3 id).chg hc4 (HPS'.out.2.2.2.1)).cell 1) ?_
        clear hK' K' hst
        refine plan_nil ?_
        have hc24 : Chg (fun g => g = (w.heap.size + 1)) w2 w4 := (hc3.mono (fun g hg => hg.elim)).trans hc4 (fun g hg => .inl hg)
        have hcr4 : Chg (fun g => g = (w.heap.size + 1) ∨ g = W.heap.size) wr w4 := (hcw2.mono (fun g hg => .inr hg)).trans hc24 (fun g hg => .inl (.inl hg))
        have hrg4 := ranges_blk hrg2 (hc24.block mc (by have := hrg2.owns.lt; omega) (by have := HS.out; have := HPS'.out; omega)) (hc24.block W.heap.size (by have := HS2.out; have := Hcg.out.size; have := Hw0.out; have := hcw2.size; omega) (by have := HPS'.out; omega))
        obtain ⟨g3, cap3, hv3, -, -, hge3, hA3⟩ := own_shape hown3 hm0'.out
        obtain ⟨b3, o3, e3, hlt3, -⟩ := hA3.all (by have := HXL.out; have := hm0'.out; omega)
        cases e3
        have hg3 : wr.heap.size ≤ g3 := by have := HS2.out; have : w2.heap.size ≤ g3 := hge3; omega
        have hB3 : W.heap.size + 1 ≤ g3 := by have := Hcg.out.size; omega
        have HCE := Lib.hid (show CEnt w F C (W.heap.size + 1) w4 (i0 : Int) v from fun k' hk' => by
          have : k' = i0 := by omega
          subst this
          exact ⟨⟨xs, own_chg (own_mono hown3 (Nat.zero_le _)) hc4 (fun g' hg' e' => by rw [hv3] at hg'; cases hg'; exact absurd (show g3 = (w.heap.size + 1) from e') (by have := HPS'.out; omega)), HXS.out⟩, g3, by rw [hv3]; rfl, hB3, Nat.lt_of_lt_of_le hlt3 hc4.size⟩)
        have HCp4 := Lib.hid (HCp.out.put H.out hcr4 (fun g hg => by have := HPS'.out; omega) HFX.out HCE.out ⟨g3, by rw [hv3]; rfl, hg3⟩)
        have HM4 := Lib.hid hM4
        have HR4 := Lib.hid (Hcg.out.trans hcr4 (fun g hg => .inl hg))
        clear hM4 hg4 hc24 hcr4 hc4 hc3 hb3 hown3 hA3
        go_wp2_with fail
        refine ⟨⟨_, cnt2, qD + 1, _, hrg4, by omega, HM4.out, HCp4.out, HR4.out⟩, ?_⟩
        rw [hrg4.left_eq, hrg.left_eq]
        exact hlt
  · simp only [nth_succ, nth_zero]
    go_simp
    have hbm : Below w.heap.size w (w.drew.alloc (.map #[] 0)) := hbd.alloc (Nat.le_refl _) _
    refine hK.out _ _ hbm ?_
    clear hK K
    refine tree_alone rfl (by rfl) (fun K hK => ?_)
    simp only [nth_succ, nth_zero]
    go_simp
    refine (mclone_any ms qS fS _ (H.out.keep hbm).sure).mono ?_
    rintro e w1 ⟨rfl, hM1, hs1, hb1⟩
    have hbw1 : Below w.heap.size w w1 := (hbm).trans (hb1.mono (hbm).size)
    refine hK.out _ _ hbw1 ?_
    clear hK K
    refine tree_alone rfl (by rfl) (fun K hK => ?_)
    simp only [nth_succ, nth_zero]
    go_simp
    refine hK.out _ _ (hbw1) ?_
    clear hK K
    refine tree_alone rfl (by rfl) (fun K hK => ?_)
    simp only [nth_succ, nth_zero]
    go_simp
    refine hK.out _ _ ((hbw1).alloc (hbw1).size _) ?_
    clear hK K
    refine tree_still2 (v := ?_) (a' := ?_) rfl (by rfl) (fun w' hS' => ?_) ?_ ?_
    rotate_left 2
    (focus (simp only [nth_succ, nth_zero]; go_simp <;> with_reducible rfl))
    (focus (simp only [nth_succ, nth_zero, Act.put, List.setIfInBounds_toArray, List.set_cons_zero, List.set_cons_succ] <;> rfl))
    refine tree_nil ?_
    refine then_gen (fun W => VM Try.prog 3 W (w.heap.size + 1) qS fS ∧ VM Try.prog 3 W w.heap.size 0 (fun _ => none) ∧ Blk W (w.heap.size + 1 + 1) 46 (dkc (w.heap.size + 1) w.heap.size k dn) ∧ Below w.heap.size w W) (by
      have hz : w1.heap.size = w.heap.size + 1 + 1 := by rw [hs1, World.size_alloc]; rfl
      have hM1' : VM Try.prog 3 w1 (w.heap.size + 1) qS fS := by have := hM1; rw [World.size_alloc] at this; exact this
      refine ⟨hM1'.block (by rw [Below.heap_alloc _ _ _ (by omega)]), ((VM.made w.drew Try.prog 3).block (hb1.block _ (by simp))).block (by rw [Below.heap_alloc _ _ _ (show w.drew.heap.size < w1.heap.size by show w.heap.size < w1.heap.size; omega)]), ?_, ?_⟩
      · have := Blk.new w1 46 (dkc (w.heap.size + 1) w.heap.size k dn); rw [hz] at this; exact this
      · exact hbw1.alloc hbw1.size _
      ) ?_
    clear c0 c2 c3 hmm bl hM1 hb1 hbw1 hs1
    rintro W ⟨hM1, hM2, hB, hb⟩
    have hS : w.heap.size ≤ (w.heap.size + 1 + 1) ∧ w.heap.size ≤ (w.heap.size + 1) ∧ w.heap.size ≤ w.heap.size ∧ (w.heap.size + 1) ≠ w.heap.size := by omega
    have HS := Lib.hid hS
    clear hS
    have p1 : W.cell? ⟨(w.heap.size + 1 + 1), 1, none⟩ = some (.map (some w.heap.size)) := hB.cell 1
    have c1 : W.cell? ⟨p, 1, none⟩ = some (.map (some mc)) := (H.out.keep hb).blk.cell 1
    obtain ⟨D, hown, hsays⟩ := (H.out.keep hb).cache
    have HSA := Lib.hid hsays
    have HM1 := Lib.hid hM1
    have HM2 := Lib.hid hM2
    have HB := Lib.hid hB
    have Hbb := Lib.hid hb
    have hsz : Maps.size D ≤ qC := hown.size_le
    clear hM1 hM2 hB hb hsays
    have HPS := Lib.hid (show (w.heap.size + 1 + 1) < W.heap.size ∧ (w.heap.size + 1) < W.heap.size ∧ w.heap.size < W.heap.size ∧ (w.heap.size + 1 + 1) ≠ w.heap.size ∧ mc < w.heap.size from ⟨HB.out.lt, HM1.out.lt, HM2.out.lt, by omega, H.out.cache.lt⟩)
    go_wp2_with (first
      | (refine wpList_range_own _ rfl (.tmp 27) 44 rfl 3 52 (Maps.int_keyed Try.underlying3) Try.underlying44 _ mc qC _ rfl hown ?_; intro w0 hrg0 hg0 hs0))
    try go_frame
    go_loopw [4, 5] (fun _ _ wr => ∃ (left : Lit → Bool) (cnt qD : Nat) (fD : Int → Option Value), wr.ranges Try.prog 3 heldV mc W.heap.size qC D left cnt ∧ qD + cnt ≤ Maps.size D ∧ Hid (VM Try.prog 3 wr w.heap.size qD fD) ∧ Hid (Cp w F C fC (W.heap.size + 1) wr left fD) ∧ Hid (Chg (fun g => g = w.heap.size ∨ g = W.heap.size) w0 wr))
      (fun _ _ wr => wr.rangeLeft mc W.heap.size)
    case atStart =>
      refine ⟨_, _, 0, fun _ => none, hrg0, by simp, HM2.out.chg (Chg.of_below (G := fun _ => False) ⟨hg0.os, hg0.tape, hg0.output, hg0.size, fun g hg => hg0.block g hg (by simp)⟩) id, ⟨fun i _ hi => .inl ?_, fun i v hv => (by cases hv), fun i j u v _ hu => (by cases hu)⟩, Chg.refl _ _⟩
      rw [(HSA.out i).1]
      cases hf : fC i with
      | none => exact absurd hf hi
      | some v => rfl
    case round =>
      obtain ⟨left, cnt, qD, fD, hrg, hcs, HMD, HCp, Hcg⟩ := hrel
      have Hbr := Lib.hid (show Below w.heap.size w wr from (Hbb.out.trans ((show Below W.heap.size W w0 from ⟨hg0.os, hg0.tape, hg0.output, hg0.size, fun g hg => hg0.block g hg (by simp)⟩).mono Hbb.out.size)).trans (Hcg.out.below (fun g hg => by have := HS.out; have := Hbb.out.size; omega) (by have := Hbb.out.size; omega)))
      go_wp2_with (first
        | (refine wpList_next_ranges _ rfl (.tmp 28) rfl 3 (Maps.int_keyed Try.underlying3) heldV (Value.int .i64) (fun v : Value => v) (fun key kl hk => by obtain ⟨x, hx, _⟩ := Maps.keyOf_int_inv Try.underlying3 hk; exact ⟨x, hx⟩) (fun v y _ => ⟨v, rfl⟩) mc W.heap.size qC _ _ _ rfl hrg ?_ ?_))
      · intro hc0 hl0
        have HL0 := Lib.hid hl0
        clear hl0
        go_wp2_with fail
        go_ret
        have hc0w := Chg.of_below (G := fun _ => False) (show Below W.heap.size W w0 from ⟨hg0.os, hg0.tape, hg0.output, hg0.size, fun g hg => hg0.block g hg (by simp)⟩)
        have hps := HPS.out
        have hss := HS.out
        exact ⟨(w.heap.size + 1 + 1), _, rfl, (copy_done H.out Hbr.out ((HB.out.chg hc0w id).chg Hcg.out (by omega)) ((HM1.out.chg hc0w id).chg Hcg.out (by omega)) HMD.out (by omega) HL0.out HCp.out hss.1 hss.2.1 hss.2.2.1 hss.2.2.2 (by omega) (by omega) (by omega)), fun g hg => hg.1, Hbr.out⟩
      · intro x c kl yd yp w2 cnt2 hkey hlk hv hat hrg2 hlt hg2 hs2 hen
        obtain ⟨x', ex, rfl, hwx⟩ := Maps.keyOf_int_inv Try.underlying3 hkey
        cases ex
        have hy : yd = .held c := by cases hv; rfl
        have hfx : fC x = some c := by
          obtain ⟨h1, h2⟩ := HSA.out x
          have h3 : Maps.has D (kI x) = true := Maps.has_true_of_atKey hat
          rw [h3] at h1
          cases hf : fC x with
          | none => rw [hf] at h1; cases h1
          | some v =>
            have h4 := h2 v hf .nil
            rw [hat .nil] at h4
            simp only [hy] at h4
            injection h4 with h4
            rw [h4]
        have hkx := H.out.kc x c hfx
        obtain ⟨i0, rfl⟩ : ∃ i0 : Nat, x = (i0 : Int) := ⟨x.toNat, by omega⟩
        obtain ⟨⟨xs, hrow, hxs⟩, hne, gr, hgr, -⟩ := H.out.cr i0 c hfx
        have hm0 : 0 < (C i0).length := by cases hc : C i0 with | nil => exact absurd hc hne | cons a b => simp
        have hxl : (C i0).length = xs.length := by have := hrow.1; omega
        have hcw2 : Chg (fun g => g = W.heap.size) wr w2 := Chg.of_grown (G := fun g => g = W.heap.size) hg2 rfl
        have Hb2 := Lib.hid (Hbr.out.trans ((hcw2.below (B := w.heap.size) (fun g hg => by have := Hbb.out.size; omega) (Hbr.out.size)).mono (Nat.le_refl _)))
        obtain ⟨g, cap, rfl, hmcap, -, -, hAx⟩ := own_shape (own_below hrow Hb2.out) hm0
        have hc0w := Chg.of_below (G := fun _ => False) (show Below W.heap.size W w0 from ⟨hg0.os, hg0.tape, hg0.output, hg0.size, fun g hg => hg0.block g hg (by simp)⟩)
        have hps := HPS.out
        have hss := HS.out
        have HB2 := Lib.hid (((HB.out.chg hc0w id).chg Hcg.out (by omega)).chg hcw2 (by omega))
        have HMD2 := Lib.hid (HMD.out.chg hcw2 (by omega))
        have hp2 : w2.drew.cell? ⟨(w.heap.size + 1 + 1), 1, none⟩ = some (.map (some w.heap.size)) := HB2.out.cell 1
        have HXS := Lib.hid hxs
        have HAx := Lib.hid hAx
        have HXL := Lib.hid hxl
        have HFX := Lib.hid hfx
        have h1c : ∀ u ∈ xs, u.oneCell' = true := by
          intro u hu
          obtain ⟨j, hj, e⟩ := List.getElem_of_mem hu
          obtain ⟨⟨A, c', e', -⟩, -⟩ := hxs j u (C i0)[j] (by rw [List.getElem?_eq_getElem hj, e]) (List.getElem?_eq_getElem (by omega))
          rw [e']; rfl
        have H1C := Lib.hid h1c
        have Hkx := Lib.hid hkx
        have HW1 := Lib.hid hwx
        have HS2 := Lib.hid hs2
        have Hw0 := Lib.hid hs0
        have HPS' := Lib.hid hps
        have hm0' := Lib.hid hm0
        clear hxs hrow hgr hAx hxl hfx hkx hc0w hps hss h1c hv hat hy hs2 hne hmcap hm0 hwx
        go_wp2_with fail
        refine region_plan (S := fun w' => w'.cell? ⟨(w.heap.size + 1 + 1), 1, none⟩ = some (.map (some w.heap.size))) [(true, 0), (true, 1), (true, 2), (true, 3), (true, 4), (true, 5), (false, 6), (false, 7)] (by kernel_rfl) (by kernel_rfl) (by kernel_rfl) rfl hp2 ?_
        simp only [planned_nil, planned_cons, nth_zero, nth_succ]
        iterate 6
          refine plan_still2 (v := ?_) (a' := ?_) (by rfl) (fun w' hS' => ?_) ?_ ?_
          rotate_left 2
          (focus (go_simp <;> with_reducible rfl))
          (focus (simp only [Act.put, List.setIfInBounds_toArray, List.set_cons_zero, List.set_cons_succ] <;> rfl))
        refine plan_do (by rfl) (fun K' hK' => ?_)
        go_simp
        refine (sclone_any (some ⟨g, 0, none⟩) xs _ cap _ (show At w2.drew (some ⟨g, 0, none⟩) xs from HAx.out) HXL.out hm0'.out H1C.out (HC.out i0 (by have := Hkx.out; omega))).mono ?_
        rintro e w3 ⟨v, rfl, hown3, hb3⟩
        have hc3 : Chg (fun _ => False) w2 w3 := (Chg.refl _ w2).drew.trans (Chg.of_below (G := fun _ => False) hb3) (fun g hg => .inl hg)
        refine hK'.out _ _ ((HB2.out.chg hc3 id).cell 1) ?_
        clear hK' K'
        obtain ⟨w4, hst, hM4, hg4, -⟩ := (HMD2.out.chg hc3 id).store (t := 44) (e := 52) Try.underlying3 Try.underlying44 (by have := HQ.out; have := H.out.qs; unfold maxLen; omega) HW1.out v
        have hc4 : Chg (fun g => g = w.heap.size) w3 w4 := Chg.of_grown (G := fun g => g = w.heap.size) hg4 rfl
        refine plan_do (by rfl) (fun K' hK' => ?_)
        go_simp
        refine hK'.out _ _ (((HB2.out.chg hc3 id).chg hc4 (HPS'.out.2.2.2.1)).cell 1) ?_
        clear hK' K' hst
        refine plan_nil ?_
        have hc24 : Chg (fun g => g = w.heap.size) w2 w4 := (hc3.mono (fun g hg => hg.elim)).trans hc4 (fun g hg => .inl hg)
        have hcr4 : Chg (fun g => g = w.heap.size ∨ g = W.heap.size) wr w4 := (hcw2.mono (fun g hg => .inr hg)).trans hc24 (fun g hg => .inl (.inl hg))
        have hrg4 := ranges_blk hrg2 (hc24.block mc (by have := hrg2.owns.lt; omega) (by have := HS.out; have := HPS'.out; omega)) (hc24.block W.heap.size (by have := HS2.out; have := Hcg.out.size; have := Hw0.out; have := hcw2.size; omega) (by have := HPS'.out; omega))
        obtain ⟨g3, cap3, hv3, -, -, hge3, hA3⟩ := own_shape hown3 hm0'.out
        obtain ⟨b3, o3, e3, hlt3, -⟩ := hA3.all (by have := HXL.out; have := hm0'.out; omega)
        cases e3
        have hg3 : wr.heap.size ≤ g3 := by have := HS2.out; have : w2.heap.size ≤ g3 := hge3; omega
        have hB3 : W.heap.size + 1 ≤ g3 := by have := Hcg.out.size; omega
        have HCE := Lib.hid (show CEnt w F C (W.heap.size + 1) w4 (i0 : Int) v from fun k' hk' => by
          have : k' = i0 := by omega
          subst this
          exact ⟨⟨xs, own_chg (own_mono hown3 (Nat.zero_le _)) hc4 (fun g' hg' e' => by rw [hv3] at hg'; cases hg'; exact absurd (show g3 = w.heap.size from e') (by have := HPS'.out; omega)), HXS.out⟩, g3, by rw [hv3]; rfl, hB3, Nat.lt_of_lt_of_le hlt3 hc4.size⟩)
        have HCp4 := Lib.hid (HCp.out.put H.out hcr4 (fun g hg => by have := HPS'.out; omega) HFX.out HCE.out ⟨g3, by rw [hv3]; rfl, hg3⟩)
        have HM4 := Lib.hid hM4
        have HR4 := Lib.hid (Hcg.out.trans hcr4 (fun g hg => .inl hg))
        clear hM4 hg4 hc24 hcr4 hc4 hc3 hb3 hown3 hA3
        go_wp2_with fail
        refine ⟨⟨_, cnt2, qD + 1, _, hrg4, by omega, HM4.out, HCp4.out, HR4.out⟩, ?_⟩
        rw [hrg4.left_eq, hrg.left_eq]
        exact hlt
end Go.Proofs.Ytdinhcgkkoceiaa
