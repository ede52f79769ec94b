/- The walk of package disk's Flush. -/
import Derived.Test.YtdinhcgkkoceiaaDiskG
namespace Go.Proofs.Ytdinhcgkkoceiaa
open Go.RowKit Go.Shelf
attribute [local go_sem] Oper.semAt_some

set_option maxRecDepth 100000 in
set_option maxHeartbeats 1000000 in
theorem dflush_nil (w : World) : Calls Try.prog 10 #[.pointer none] w fun e w' => e = .returned (.int .i64 1) ∧ Below w.heap.size w w' := by
  go_enter Try.func10, Try.ntmps10
  go_wp2_with fail
  refine (up_nil 0 _).mono ?_
  rintro e w' ⟨rfl, rfl⟩
  go_wp2_with fail
  go_ret
  exact ⟨rfl, (Below.refl _ _).alloc (Nat.le_refl _) _⟩

/-- a block that is no cells and no map turns: the disk stays -/
theorem DkIn.defer {W W' : World} {p : Nat} {F : Nat → Prop} {q : Nat} {S : Nat → List UInt8} {C : Nat → List (List UInt8)} {n : Nat} {dn : Bool} {ms mc : Nat} {fS fC : Int → Option Value} {qS qC : Nat}
    (h : DkIn W p F q S C n dn ms mc fS fC qS qC) {D : Nat} {o : Option (List Deferred)} (hD : W.heap[D]? = some (.deferred o)) (hsz : W.heap.size ≤ W'.heap.size) (hb : ∀ g, g < W.heap.size → g ≠ D → W'.heap[g]? = W.heap[g]?) : DkIn W' p F q S C n dn ms mc fS fC qS qC := by
  have hcell : ∀ a : Addr, a.block = D → W.cell? a = none := by
    intro a ha
    unfold World.cell?
    rw [ha, hD]
  have hA : ∀ {A : Option Addr} {xs : List Value}, At W A xs → At W' A xs := by
    intro A xs hA hn
    obtain ⟨b, off, e, hlt, hc⟩ := hA.all hn
    refine ⟨b, off, e, fun j u hu => ?_⟩
    have hbD : b ≠ D := by
      intro e'
      have := hc j u hu
      rw [hcell _ e'] at this
      cases this
    exact (World.cell?_of_block (w := W) (hb b hlt hbD)).trans (hc j u hu)
  have hS : ∀ {v : Value} {l : List UInt8}, SV W F v l → SV W' F v l := by
    rintro v l ⟨A, c, h1, h2, h3, h4, h5⟩
    exact ⟨A, c, h1, h2, h3, hA h4, h5⟩
  have hO : ∀ {base n size : Nat} {e : TypeId} {v : Value} {xs : List Value}, W.ownsRow base e size v n xs → W'.ownsRow base e size v n xs := by
    intro base n size e v xs h
    refine ⟨h.1, ?_⟩
    rcases h.2 with h2 | ⟨g, cap, cur, hv, hg, hh, r⟩
    · exact .inl h2
    · refine .inr ⟨g, cap, cur, hv, hg, ?_, r⟩
      rw [hb g (lt_of_block hh) (by intro e'; rw [e', hD] at hh; cases hh)]
      exact hh
  have hMn : ∀ {b q : Nat} {f : Int → Option Value}, VM Try.prog 3 W b q f → VM Try.prog 3 W' b q f := by
    intro b q f h
    refine h.block (hb b h.lt ?_)
    intro e'
    obtain ⟨es, c, hm⟩ := h.isMap
    rw [e', hD] at hm
    cases hm
  exact { blk := (hb p h.blk.lt (by intro e'; have := h.blk; unfold Blk at this; rw [e', hD] at this; cases this)).trans h.blk, sure := hMn h.sure, cache := hMn h.cache, qs := h.qs, ne := h.ne, fp := h.fp, fs := h.fs, fc := h.fc,
          fl := fun g hg => Nat.lt_of_lt_of_le (h.fl g hg) hsz, ks := h.ks, kc := h.kc,
          sv := fun i hi => by obtain ⟨l, h1, h2⟩ := h.sv i hi; exact ⟨l, hS h1, h2⟩,
          c0 := h.c0, cr := fun i v hv => by
            obtain ⟨⟨xs, a1, a2⟩, r⟩ := h.cr i v hv
            exact ⟨⟨xs, hO a1, fun j u l hu hl => ⟨hS (a2 j u l hu hl).1, (a2 j u l hu hl).2⟩⟩, r⟩,
          cd := h.cd }

set_option maxRecDepth 100000 in
set_option maxHeartbeats 4000000 in
theorem dflush_ok (p : Nat) (F : Nat → Prop) (q : Nat) (S : Nat → List UInt8) (C : Nat → List (List UInt8)) (k : Nat) (w : World) (hD : Dk w p F q S C k false) (hq : q < 1000000) (hC : ∀ i, i < 34 → (C i).length ≤ 1000000) :
    Calls Try.prog 10 #[.pointer (some ⟨p, 0, none⟩)] w fun e w' => e = .returned (.int .i64 0) ∧ Dk w' p F q (cur S C) (fun _ => []) 0 false ∧ Chg F w w' := by
  refine (callsIn_wide (n := 3)).1 ?_
  refine callsIn_of_wp_marks Try.func10 rfl trivial ?_ rfl
  simp only [Try.ntmps10, List.size_toArray, List.length_cons, List.length_nil, Nat.reduceAdd, Nat.reduceSub, Array.replicate_succ, Array.replicate_zero, List.push_toArray, List.append_toArray, List.nil_append, List.cons_append]
  obtain ⟨ms, mc, fS, fC, qS, qC, h0⟩ := hD
  have hb01 : Below w.heap.size w (w.alloc (.cells #[.pointer (some ⟨p, 0, none⟩)] 25)) := (Below.refl _ _).alloc (Nat.le_refl _) _
  have H1 := Lib.hid (h0.keep hb01)
  have HC := Lib.hid hC
  have Hq := Lib.hid hq
  have Hb01 := Lib.hid hb01
  have hFl := Lib.hid h0.fl
  clear h0 hC hq hb01
  gi_wp2
  refine ⟨trivial, (callsIn_wide.2 (up_ok p ms mc k 0 _ H1.out.blk (by omega) (by omega))).mono ?_⟩
  rintro e w' ⟨rfl, rfl⟩
  gi_wp2
  refine ⟨trivial, (callsIn_wide.2 (last_any p _)).mono ?_⟩
  rintro e w' ⟨rfl, rfl⟩
  gi_wp2
  have Hsz0 := Lib.hid (show ((w.alloc (.cells #[.pointer (some ⟨p, 0, none⟩)] 25)).alloc (.cells #[.pointer (some ⟨p, 0, none⟩)] 25)).heap.size = w.heap.size + 2 by simp)
  have bO := (Boxed.new w 25 (.pointer (some ⟨p, 0, none⟩))).alloc (.cells #[.pointer (some ⟨p, 0, none⟩)] 25)
  have bI := Boxed.new (w.alloc (.cells #[.pointer (some ⟨p, 0, none⟩)] 25)) 25 (.pointer (some ⟨p, 0, none⟩))
  rw [World.size_alloc] at bI
  have hb12 : Below (w.alloc (.cells #[.pointer (some ⟨p, 0, none⟩)] 25)).heap.size (w.alloc (.cells #[.pointer (some ⟨p, 0, none⟩)] 25)) ((w.alloc (.cells #[.pointer (some ⟨p, 0, none⟩)] 25)).alloc (.cells #[.pointer (some ⟨p, 0, none⟩)] 25)) := (Below.refl _ _).alloc (Nat.le_refl _) _
  have hb02 : Below w.heap.size w ((w.alloc (.cells #[.pointer (some ⟨p, 0, none⟩)] 25)).alloc (.cells #[.pointer (some ⟨p, 0, none⟩)] 25)) := Hb01.out.trans (hb12.mono Hb01.out.size)
  have H2 := Lib.hid (H1.out.keep hb12)
  clear hb12
  generalize (w.alloc (.cells #[.pointer (some ⟨p, 0, none⟩)] 25)).alloc (.cells #[.pointer (some ⟨p, 0, none⟩)] 25) = w2 at Hsz0 bO bI hb02 H2 ⊢
  obtain ⟨lv, hlv⟩ := H2.out.newest HC.out
  have HLv := Lib.hid hlv
  clear hlv
  have hmsB : ms < w2.heap.size := H2.out.fl ms H2.out.fs
  have hmcB : mc < w2.heap.size := H2.out.fl mc H2.out.fc
  have hpB : p < w2.heap.size := H2.out.fl p H2.out.fp
  have hpms := H2.out.pms
  have hmsw : ms ≠ w.heap.size := by
    intro e
    obtain ⟨es, c, hb⟩ := H2.out.sure.isMap
    rw [e, show w2.heap[w.heap.size]? = _ from bO] at hb
    cases hb
  have hmsw1 : ms ≠ w.heap.size + 1 := by
    intro e
    obtain ⟨es, c, hb⟩ := H2.out.sure.isMap
    rw [e, show w2.heap[w.heap.size + 1]? = _ from bI] at hb
    cases hb
  have hb0lt := bO.lt
  have hseq : SeqStopsK Fence.wide (3 - 1) Try.prog 24 #[.pointer (some ⟨w.heap.size + 1, 0, none⟩)] (fun x : LV fC lv => lencs x) (KD w2.heap.size ms) (fun ys => Lst qC fC lv ys) (fun _ => True) qC w2 := by
    intro l J Jx W hW hJ _ hY h0
    refine last1_in Fence.wide (3 - 1) trivial rfl (by omega) l w2.heap.size (w.heap.size + 1) p ms mc qC fC lv J Jx hY W hJ ((hW.cell (p := ⟨w.heap.size + 1, 0, none⟩) bI.lt).trans bI.cell) ((hW.cell (p := ⟨p, 1, none⟩) hpB).trans (H2.out.blk.cell 1)) (H2.out.cache.block (hW.block mc hmcB)) hW.size hmcB (fun e => H2.out.ne e.symm) ?_ h0
    intro i v hv
    obtain ⟨⟨g, m, cap, h1, h2, h3, h4, h5, h6⟩, _⟩ := HLv.out i v hv
    exact ⟨g, m, cap, h1, h2, h3, h4, h5, (hW.cell (p := ⟨g, m - 1, none⟩) h4).trans h6⟩
  have hI : OwnFrom w2.heap.size (fun (pre : List (LV fC lv)) (W : World) => Chg (fun g => g = ms) w2 W ∧ VM Try.prog 3 W ms (qS + pre.length) (pre.foldl (fun f x => fput f x.1.1 x.1.2) fS)) := by
    intro s W W' row hs hg hr
    have hlow : ∀ g, g < w2.heap.size → g < W.heap.size → W'.heap[g]? = W.heap[g]? := fun g hgB hgW => hg.block g hgW (by intro e; have := (hr g e.symm).1; omega)
    refine ⟨⟨hg.os.trans hs.1.os, hg.tape.trans hs.1.tape, hg.output.trans hs.1.output, Nat.le_trans hs.1.size hg.size, fun g hgB hgn => (hlow g hgB (by have := hs.1.size; omega)).trans (hs.1.block g hgB hgn)⟩, hs.2.block (hlow ms hmsB hs.2.lt)⟩
  have HI := Lib.hid hI
  have Hseq := Lib.hid hseq
  clear hI hseq
  refine wpIn_rangeFunc_ownG rfl (by omega) (gf := 24) (lb := #[.pointer (some ⟨w.heap.size + 1, 0, none⟩)]) rfl trivial (enters_of Try.func24 (by kernel_rfl) rfl)
    Hseq.out KD.t KD.b (Below.refl _ _) (fun _ => rfl)
    (fun (pre : List (LV fC lv)) (W : World) => Chg (fun g => g = ms) w2 W ∧ VM Try.prog 3 W ms (qS + pre.length) (pre.foldl (fun f x => fput f x.1.1 x.1.2) fS))
    (fun _ _ _ => False) HI.out (fun _ _ _ _ _ hs _ _ => hs) ⟨Chg.refl _ _, H2.out.sure⟩
    (fun y => { tmps :=
        #[.pointer (some ⟨p, 0, none⟩), .pointer (some ⟨w.heap.size, 0, none⟩), .int .i64 0, .int .i64 0, .int .i64 y.1.1, y.1.2, .pointer (some ⟨p, 0, none⟩), .int .i64 0, .int .i64 0, .bool false, undef,
          .pointer (some ⟨p, 0, none⟩), .func (.func 24) #[] #[.pointer (some ⟨w.heap.size + 1, 0, none⟩)], .int .i64 y.1.1, y.1.2, undef, undef, undef, undef, undef, undef, undef, undef], defers := [] }) ?assign ?body ?done ?stop
  case assign =>
    intro l y W K hK
    gi_wp2
    exact hK
  case body =>
    rintro l pre y W ⟨hc, hM⟩ hlt
    have hbx : W.cell? ⟨w.heap.size, 0, none⟩ = some (.pointer (some ⟨p, 0, none⟩)) := (World.cell?_of_block (w := w2) (hc.block w.heap.size hb0lt (fun e => hmsw e.symm))).trans bO.cell
    have hp0 : W.cell? ⟨p, 0, none⟩ = some (.map (some ms)) := (World.cell?_of_block (w := w2) (hc.block p hpB hpms)).trans (H2.out.blk.cell 0)
    have hxr : 0 ≤ y.1.1 ∧ y.1.1 < 34 := by
      cases hf : fC y.1.1 with
      | none => exact absurd hf y.2.1
      | some u => exact H2.out.kc y.1.1 u hf
    have hwf : (kI y.1.1).wf = true := wfI (by omega) (by omega)
    obtain ⟨W', hst, hM', hg', hs'⟩ := hM.store (t := 43) (e := 27) Try.underlying3 Try.underlying43 (by have := H2.out.qs; have := Hq.out; unfold maxLen; omega) hwf y.1.2
    have hfin : KeepsFrom w2.heap.size W W' ∧ KD w2.heap.size ms W W' ∧ (Chg (fun g => g = ms) w2 W' ∧ VM Try.prog 3 W' ms (qS + (pre ++ [y]).length) ((pre ++ [y]).foldl (fun f x => fput f x.1.1 x.1.2) fS)) := by
      refine ⟨⟨hg'.size, fun g o hgB ho _ => (hg'.block g (Array.getElem?_eq_some_iff.1 ho).1 (by intro e; cases e; omega)).trans ho⟩, ⟨hg'.size, fun g hgB hgn => hg'.block g (by have := hc.size; omega) (by intro e; cases e; exact hgn rfl), fun g o hgB ho _ => (hg'.block g (Array.getElem?_eq_some_iff.1 ho).1 (by intro e; cases e; omega)).trans ho⟩, hc.trans (Chg.of_grown (G := fun g => g = ms) hg' rfl) (fun g hg => .inl hg), ?_⟩
      rw [List.length_append, List.foldl_append]
      exact hM'
    have Hfin := Lib.hid hfin
    clear hfin hM' hg' hs' hM hc hwf
    gi_wp2
    exact Hfin.out
  case done =>
    rintro D ys W hD hL ⟨hc, hM⟩ hK
    have hbx : W.cell? ⟨w.heap.size, 0, none⟩ = some (.pointer (some ⟨p, 0, none⟩)) := (World.cell?_of_block (w := w2) (hc.block w.heap.size hb0lt (fun e => hmsw e.symm))).trans bO.cell
    have hany : ∀ i : Int, (fC i = none → ys.any (fun x => x.1.1 == i) = false) ∧ ((kI i).wf = true → fC i ≠ none → ys.any (fun x => x.1.1 == i) = true) := by
      intro i
      constructor
      · intro hf
        rw [List.any_eq_false]
        intro x _ hx
        simp only [beq_iff_eq] at hx
        exact x.2.1 (by rw [hx]; exact hf)
      · intro hw hf
        obtain ⟨x, hx, hxi⟩ := hL.2 i hw hf
        exact List.any_eq_true.2 ⟨x, hx, by simp [hxi]⟩
    have HB := Lib.hid (H2.out.blk.chg hc hpms)
    have HMc := Lib.hid (H2.out.cache.chg hc (fun e => H2.out.ne e.symm))
    have hks : ∀ i v, ys.foldl (fun f x => fput f x.1.1 x.1.2) fS i = some v → 0 ≤ i ∧ i < 34 := by
      intro i v hv
      rw [fold_get] at hv
      split at hv
      · rename_i hy
        obtain ⟨x, _, hx⟩ := List.any_eq_true.1 hy
        simp only [beq_iff_eq] at hx
        cases hf : fC x.1.1 with
        | none => exact absurd hf x.2.1
        | some u => rw [← hx]; exact H2.out.kc x.1.1 u hf
      · exact H2.out.ks i v hv
    have hsv : ∀ i : Nat, i < 34 → ∃ l, SV w2 F ((ys.foldl (fun f x => fput f x.1.1 x.1.2) fS (i : Int)).getD nilS) l ∧ l.length ≤ 64 ∧ cur S C i = pad l := by
      intro i hi
      rw [fold_get]
      cases hf : fC (i : Int) with
      | none =>
        rw [(hany i).1 hf]
        obtain ⟨l, h1, h2, h3⟩ := H2.out.sv i hi
        refine ⟨l, by simpa using h1, h2, ?_⟩
        unfold cur
        rw [H2.out.c0 i hi hf]
        exact h3
      | some v =>
        rw [(hany i).2 (wfI (by omega) (by omega)) (by rw [hf]; simp)]
        obtain ⟨_, h2⟩ := HLv.out (i : Int) v hf
        obtain ⟨h3, h4⟩ := h2 i rfl
        exact ⟨cur S C i, by simpa using h3, by omega, (pad_full h4).symm⟩
    have hqq : qS + ys.length ≤ q := by have := hL.1; have := H2.out.qs; omega
    have HS := Lib.hid (fun (W1 : World) (hM1 : VM Try.prog 3 W1 mc 0 (fun _ => none)) (hg : W.grownBy W1 (some mc)) => dk_settle H2.out hc hM hqq hks hsv hM1 hg)
    have Hc := Lib.hid hc
    have HD := Lib.hid hD
    have HK := Lib.hid hK
    clear hany hks hsv hqq hL hM hc hD hK
    gi_wp2
    refine ⟨trivial, (callsIn_wide.2 (dclear_any p ms mc k qC false fC W HB.out HMc.out H2.out.pmc)).mono ?_⟩
    rintro e w' ⟨⟨v, rfl⟩, W1, hM1, hg1, rfl⟩
    obtain ⟨hd, hcd⟩ := HS.out W1 hM1 hg1
    have hK1 : W1.heap[D]? = some (.deferred (some [])) := (hg1.block D (Array.getElem?_eq_some_iff.1 HK.out).1 (by intro e; cases e; have := HD.out; omega)).trans HK.out
    have hK2 : (W1.setCell ⟨p, 2, none⟩ (.int .i64 0)).heap[D]? = some (.deferred (some [])) := (Below.heap_setCell W1 ⟨p, 2, none⟩ (.int .i64 0) D (by have := HD.out; simp only; omega)).trans hK1
    have Hd := Lib.hid hd
    have Hcd := Lib.hid hcd
    clear hd hcd hM1 hg1 hK1
    generalize W1.setCell ⟨p, 2, none⟩ (.int .i64 0) = W2 at Hd Hcd hK2 ⊢
    have HK2 := Lib.hid hK2
    clear hK2
    gi_wp2
    refine ⟨by simp, .inl ⟨_, _, rfl, run_takeDeferred HK2.out, ?_⟩⟩
    have hg := grownBy_putObj' W2 D (.deferred none)
    have hc2 : Chg F w W2 := (Chg.of_below hb02).trans Hcd.out (fun g hg => .inl hg)
    have hc3 : Chg F w (W2.putObj D (.deferred none)) := hc2.trans (Chg.of_grown (G := fun g => g = D) hg rfl) (fun g hg => .inr (by have := HD.out; have := hb02.size; omega))
    have hdk : Dk (W2.putObj D (.deferred none)) p F q (cur S C) (fun _ => []) 0 false := by
      obtain ⟨ms', mc', fS', fC', qS', qC', h⟩ := Hd.out
      exact ⟨ms', mc', fS', fC', qS', qC', h.defer HK2.out hg.size (fun g hg1 hg2 => hg.block g hg1 (by intro e; cases e; exact hg2 rfl))⟩
    exact ⟨_, results_tmp (t := 2) rfl _ _ _, rfl, hdk, hc3⟩
  case stop =>
    rintro D c pre W _ _ h _
    exact h.elim
end Go.Proofs.Ytdinhcgkkoceiaa
