/- The walk of package stripe: All. -/
import Derived.Test.YtbleebiffpkcmaaStripeF
import Derived.Deep.WholeRow
namespace Go.Proofs.Ytbleebiffpkcmaa
open Go.RowKit

/-- changes made, one behind the other -/
def ap (of : List Int) (L : List (Nat × Int)) : List Int := L.foldl (fun o x => o.set x.1 x.2) of
theorem ap_length (L : List (Nat × Int)) : ∀ of : List Int, (ap of L).length = of.length := by
  induction L with
  | nil => intro of; rfl
  | cons x L ih => intro of; show (ap (of.set x.1 x.2) L).length = _; rw [ih, List.length_set]
theorem ap_snoc (of : List Int) (L : List (Nat × Int)) (x : Nat × Int) : ap of (L ++ [x]) = (ap of L).set x.1 x.2 := by unfold ap; rw [List.foldl_append]; rfl
/-- changes that may be -/
def GoodCh (L : List (Nat × Int)) : Prop := ∀ x ∈ L, x.1 < 8 ∧ 1 ≤ x.2 ∧ x.2 ≤ 4
theorem okOf_set {of : List Int} (h : St.okOf of = true) (i : Nat) (t : Int) (h1 : 1 ≤ t) (h2 : t ≤ 4) : St.okOf (of.set i t) = true := by
  unfold St.okOf at *
  rw [List.all_eq_true] at *
  intro x hx
  rcases List.mem_or_eq_of_mem_set hx with h3 | h3
  · exact h x h3
  · rw [h3]; simp; omega
theorem okOf_ap (L : List (Nat × Int)) : ∀ of : List Int, St.okOf of = true → GoodCh L → St.okOf (ap of L) = true := by
  induction L with
  | nil => intro of h _; exact h
  | cons x L ih =>
    intro of h hg
    have hx := hg x List.mem_cons_self
    exact ih _ (okOf_set h x.1 x.2 hx.2.1 hx.2.2) (fun y hy => hg y (List.mem_cons_of_mem _ hy))
theorem st_ok {V : Int} {of : List Int} (h1 : 0 ≤ V) (h2 : V ≤ 1099511627776) (h3 : St.okOf of = true) : St.ok V of = true := by
  unfold St.ok
  rw [decide_eq_true ⟨h1, h2⟩, h3]; rfl
theorem chc_at : ∀ (L : List (Nat × Int)) (k : Nat) (x : Nat × Int), L[k]? = some x → ((chc L).drop (k * 2)).take 2 = [.int .i64 (x.1 : Int), .int .i64 x.2] := by
  intro L
  induction L with
  | nil => intro k x h; simp at h
  | cons y L ih =>
    intro k x h
    cases k with
    | zero =>
      simp only [List.getElem?_cons_zero, Option.some.injEq] at h
      subst h
      rfl
    | succ k =>
      simp only [List.getElem?_cons_succ] at h
      have := ih k x h
      rw [show (k + 1) * 2 = k * 2 + 2 by omega]
      exact this
theorem At.ch {w : World} {b off : Nat} {L : List (Nat × Int)} {k : Nat} {x : Nat × Int} (h : At w (some ⟨b, off, none⟩) (chc L)) (hx : L[k]? = some x) : At w (some ⟨b, off + k * 2, none⟩) [.int .i64 (x.1 : Int), .int .i64 x.2] := by
  have := h.cut (k * 2) 2
  rw [chc_at L k x hx, Option.map_some, addr_add] at this
  exact this

/-- a map is laid into the block that was made last -/
theorem wpList_map_new {w : World} {ops : Array Oper} {rest : List Oper} {o : Oper} {a : Act} {Q : Exit → Act → World → Prop} (hgd : o.guard = none) (x y : Operand) (ho : o.op = .store 34 x y)
    (hx : a.eval x = .pointer (some ⟨w.heap.size, 0, none⟩)) (V : Int) (of : List Int) (h8 : of.length = 8) (hy : a.eval y = .agg (mp V of).toArray)
    (h : wpList Try.prog ops Q rest (a.put o.dst undef) (w.alloc (.cells (mp V of).toArray 34))) : wpList Try.prog ops Q (o :: rest) a (w.alloc (.cells (mp 0 (List.replicate 8 0)).toArray 34)) := by
  refine wpList_store_row hgd _ x y ho w.heap.size (mp V of).toArray hx hy 34 (mp 0 (List.replicate 8 0)).toArray (Blk.new w _ _) (by rw [List.size_toArray, mp_length, h8]; kernel_rfl) (by rw [List.size_toArray, List.size_toArray, mp_length, mp_length, h8]; rfl) (by rw [List.all_toArray, List.all_eq_true]; exact mp_one _ _) ?_
  rw [World.setRow_alloc_new]
  exact h

theorem results_cell_tmp2_blk {P : Program} {fn : Func} {p u u' : Tmp} {ty : TypeId} (h : fn.results = #[.cell p ty, .tmp u, .tmp u']) (tmps : Array Value) (w : World) {g : Nat} {l : List Value} {d : TypeDesc}
    (hp : tmps.getD p undef = .pointer (some ⟨g, 0, none⟩)) (hB : Blk w g ty l) (hu : P.underlying ty = some d)
    (hd : (match d with | .struct _ | .array _ _ => true | _ => false) = true) (hi : (P.info? ty).map (·.size) = some l.length) :
    (results fn tmps).run P w = .ok (.tuple #[.agg l.toArray, tmps.getD u undef, tmps.getD u' undef]) w := by
  have hp' : tmps[p]?.getD undef = .pointer (some ⟨g, 0, none⟩) := by simpa using hp
  simp [results, h, hp', asAddr, Result.andThen, loadVar_blk hB hu hd hi]

/-- what All answers -/
def AllSays (V : Int) (of : List Int) (L : List (Nat × Int)) (w : World) (e : Ending) (w' : World) : Prop :=
  ((V + L.length ≤ 1099511627776 ∧ e = .returned (.tuple #[.agg (mp (V + L.length) (ap of L)).toArray, .int .i64 (L.length : Int), .int .i64 0])) ∨
    (1099511627776 < V + L.length ∧ ∃ V' of' x, of'.length = 8 ∧ e = .returned (.tuple #[.agg (mp V' of').toArray, .int .i64 x, .int .i64 50]))) ∧ Below w.heap.size w w'

set_option maxRecDepth 100000 in
set_option maxHeartbeats 8000000 in
theorem sAll_in (V : Int) (of : List Int) (A : Option Addr) (L : List (Nat × Int)) (n c : Nat) (w : World) (hA : At w A (chc L)) (hn : n = L.length) (hn8 : n ≤ 1000) (h8 : of.length = 8) (hok : St.ok V of = true) (hG : GoodCh L) :
    Calls Try.prog 20 #[.agg (mp V of).toArray, .slice A n c] w (AllSays V of L w) := by
  obtain ⟨v1, v2⟩ := st_parts hok
  have HA := Lib.hid hA
  have Hn := Lib.hid hn
  have H8 := Lib.hid h8
  have Hok := Lib.hid hok
  have HG := Lib.hid hG
  have HV1 := Lib.hid v1
  have HV2 := Lib.hid v2
  obtain ⟨z8, hz8⟩ : ∃ z8 : List Int, z8 = List.replicate 8 0 := ⟨_, rfl⟩
  have Hz8 := Lib.hid hz8
  obtain ⟨w1, hw1⟩ : ∃ w1, w1 = Bx (Bx w V of) 0 z8 := ⟨_, rfl⟩
  have hb01 : Below w.heap.size w w1 := by rw [hw1]; exact ((Below.refl _ _).alloc (Nat.le_refl _) _).alloc (by rw [World.size_alloc]; omega) _
  have hBa0 : Blk (Bx (Bx w V of) 0 z8) w.heap.size 34 (mp V of) := (Blk.new w 34 (mp V of)).alloc _
  have hBb0 : Blk (Bx (Bx w V of) 0 z8) (w.heap.size + 1) 34 (mp 0 z8) := by
    have h := Blk.new (Bx w V of) 34 (mp 0 z8)
    rwa [World.size_alloc] at h
  have HBa0 := Lib.hid (show Blk (Bx (Bx w V of) 0 (List.replicate 8 0)) w.heap.size 34 (mp V of) by rw [← hz8]; exact hBa0)
  have HBa1 := Lib.hid (show Blk w1 w.heap.size 34 (mp V of) by rw [hw1]; exact hBa0)
  have HBb1 := Lib.hid (show Blk w1 (w.heap.size + 1) 34 (mp 0 z8) by rw [hw1]; exact hBb0)
  have Hw1 := Lib.hid hw1
  have HsM := Lib.hid (show ∀ (V : Int) (of : List Int), of.length = 8 → (Try.prog.info? 34).map (·.size) = some (mp V of).toArray.size from fun V of h => by rw [List.size_toArray, mp_length, h]; kernel_rfl)
  have HoM := Lib.hid (show ∀ (V : Int) (of : List Int), (mp V of).toArray.all (·.oneCell') = true from fun V of => by rw [List.all_toArray, List.all_eq_true]; exact mp_one _ _)
  have HIc := Lib.hid (show (Try.prog.info? 36).map (·.size) = some 2 by kernel_rfl)
  clear hA hn h8 hok hw1 hBa0 hBb0 hG v1 v2
  go_enter Try.func20, Try.ntmps20
  go_wp2_with (refine wpList_load_map (by rfl) (.tmp 2) rfl w.heap.size rfl V of H8.out HBa0.out ?_)
  change Calls _ _ _ (Bx (Bx w V of) 0 (List.replicate 8 0)) _
  rw [← Hz8.out, ← Hw1.out]
  refine (check_any V of _ H8.out).mono ?_
  rintro e w2 ⟨rfl, hb12⟩
  rw [Hok.out]
  have HBa2 := Lib.hid (HBa1.out.below hb12 HBa1.out.lt)
  have HBb2 := Lib.hid (HBb1.out.below hb12 HBb1.out.lt)
  have hb02 : Below w.heap.size w w2 := hb01.trans (hb12.mono hb01.size)
  simp only [if_true]
  clear hb12
  go_wp2_with fail
  go_loopw [20] (fun i wr => ∃ k : Nat, k ≤ n ∧ i = .int .i64 k ∧ Hid (V + k ≤ 1099511627776) ∧ Hid (Blk wr w.heap.size 34 (mp (V + k) (ap of (L.take k)))) ∧ Hid (Blk wr (w.heap.size + 1) 34 (mp 0 z8)) ∧ Below w.heap.size w wr) (fun i _ => n - (intOf i).toNat)
  case atStart => exact ⟨0, by omega, rfl, by have := HV2.out; show V + ((0 : Nat) : Int) ≤ _; omega, by simpa [Hid, ap] using HBa2.out, HBb2.out, hb02⟩
  case round =>
    obtain ⟨k, hk, rfl, hVk, hB, hR, hb⟩ := hrel
    by_cases hlt : k < n
    · have hlt' : (k : Int) < (n : Int) := by omega
      obtain ⟨x, hx⟩ : ∃ x, L[k]? = some x := ⟨_, List.getElem?_eq_getElem (by have := Hn.out; omega)⟩
      have hgx := HG.out x (List.mem_of_getElem? hx)
      have hAr := HA.out.below hb (Nat.le_refl _)
      obtain ⟨b, off, hAe, hbl, -⟩ := hAr.all (by rw [chc_length]; have := Hn.out; omega)
      subst hAe
      have HX := Lib.hid (hAr.ch hx)
      obtain ⟨s, t⟩ := x
      simp only at hgx HX
      have Hgx := Lib.hid hgx
      have Hx := Lib.hid hx
      obtain ⟨ofk, hofk⟩ : ∃ ofk, ofk = ap of (L.take k) := ⟨_, rfl⟩
      rw [← hofk] at hB
      have hk8 : ofk.length = 8 := by rw [hofk, ap_length]; exact H8.out
      have Hofk := Lib.hid hofk
      have Hk8 := Lib.hid hk8
      have Hokk := Lib.hid (show St.ok (V + (k : Int)) ofk = true by
        rw [hofk]
        exact st_ok (by have := HV1.out; omega) hVk.out (okOf_ap _ _ (St.ok_of Hok.out) (fun y hy => HG.out y (List.mem_of_mem_take hy))))
      have hBc := hB.out.alloc (.cells #[.int .i64 (s : Int), .int .i64 t] 36)
      have HBc := Lib.hid hBc
      have HRc := Lib.hid (hR.out.alloc (.cells #[.int .i64 (s : Int), .int .i64 t] 36))
      have hbc := hb.alloc hb.size (.cells #[.int .i64 (s : Int), .int .i64 t] 36)
      obtain ⟨Vk, hVke⟩ : ∃ Vk, Vk = V + (k : Int) := ⟨_, rfl⟩
      rw [← hVke] at Hokk HBc
      have HVk := Lib.hid hVke
      clear hgx hx hAr hofk hk8 hBc hVke
      go_wp2_with (first
        | (refine wpList_load_at rfl 36 (.tmp 23) rfl b (off + k * 2) rfl [.int .i64 (s : Int), .int .i64 t] _ HX.out (Nat.zero_lt_succ _) Try.underlying36 rfl HIc.out ?_)
        | (refine wpList_load_map (by rfl) (.tmp 2) rfl w.heap.size rfl Vk ofk Hk8.out HBc.out ?_))
      obtain ⟨gs1, gs2, gs3⟩ := Hgx.out
      have HZ8 := Lib.hid (show (List.replicate 8 (0 : Int)).length = 8 by rfl)
      by_cases hfull : Vk < 1099511627776
      · have Hfull := Lib.hid hfull
        refine (change_yes Vk ofk s t _ Hk8.out Hokk.out gs1 gs2 gs3 hfull).mono ?_
        rintro e w4 ⟨rfl, hbx⟩
        have hb4 : Below w.heap.size w w4 := hbc.trans (hbx.mono hbc.size)
        have HB4 := Lib.hid (HBc.out.below hbx HBc.out.lt)
        have HR4 := Lib.hid (HRc.out.below hbx HRc.out.lt)
        have h8n : Hid ((ofk.set s t).length = 8) := by unfold Hid; rw [List.length_set]; exact Hk8.out
        have HBn := Lib.hid (HB4.out.alloc (.cells (mp (Vk + 1) (ofk.set s t)).toArray 34))
        have HRn := Lib.hid (HR4.out.alloc (.cells (mp (Vk + 1) (ofk.set s t)).toArray 34))
        have HNn := Lib.hid (Blk.new w4 34 (mp (Vk + 1) (ofk.set s t)))
        have hbn := hb4.alloc hb4.size (.cells (mp (Vk + 1) (ofk.set s t)).toArray 34)
        have Hsz := Lib.hid (show (mp Vk ofk).toArray.size = (mp (Vk + 1) (ofk.set s t)).toArray.size by rw [List.size_toArray, List.size_toArray, mp_length, mp_length, List.length_set])
        clear hfull hbx gs1 gs2 gs3
        go_wp2_with (first
          | (refine wpList_map_new rfl (.tmp 10) (.tmp 29) rfl rfl (Vk + 1) (ofk.set s t) h8n.out rfl ?_)
          | (refine wpList_load_map (by rfl) (.tmp 10) rfl w4.heap.size rfl (Vk + 1) (ofk.set s t) h8n.out HNn.out ?_)
          | (refine wpList_store_row rfl _ (.tmp 2) (.tmp 36) rfl w.heap.size (mp (Vk + 1) (ofk.set s t)).toArray rfl rfl 34 (mp Vk ofk).toArray HBn.out (HsM.out _ _ h8n.out) Hsz.out (HoM.out _ _) ?_))
        go_roundw
        case rel =>
          refine ⟨k + 1, by omega, by go_num, ?_, ?_, ?_, below_setRow hbn (Nat.le_refl _) _⟩
          · have := Hfull.out; have := HVk.out; show V + ((k + 1 : Nat) : Int) ≤ _; omega
          · have h := HBn.out.row (mp (Vk + 1) (ofk.set s t))
            have e1 : V + ((k + 1 : Nat) : Int) = Vk + 1 := by rw [HVk.out]; omega
            have e2 : ap of (L.take (k + 1)) = ofk.set s t := by rw [List.take_add_one, Hx.out, Option.toList_some, ap_snoc, Hofk.out]
            unfold Hid
            rw [e1, e2]
            exact h
          · exact Lib.hid (HRn.out.rowFar (by omega) _)
        case measure => simp [intOf]; omega
      · have hVmax : Vk = 1099511627776 := by have := hVk.out; have := HVk.out; omega
        rw [hVmax] at Hokk HBc ⊢
        refine (change_full ofk s t _ Hk8.out Hokk.out (by omega) (by omega) gs2 gs3).mono ?_
        rintro e w4 ⟨rfl, hbx⟩
        have hb4 : Below w.heap.size w w4 := hbc.trans (hbx.mono hbc.size)
        have HB4 := Lib.hid (HBc.out.below hbx HBc.out.lt)
        have HR4 := Lib.hid (HRc.out.below hbx HRc.out.lt)
        have HBn := Lib.hid (HB4.out.alloc (.cells (mp 0 (List.replicate 8 0)).toArray 34))
        have HRn := Lib.hid (HR4.out.alloc (.cells (mp 0 (List.replicate 8 0)).toArray 34))
        have hbn := hb4.alloc hb4.size (.cells (mp 0 (List.replicate 8 0)).toArray 34)
        have Hsz := Lib.hid (show (mp 0 z8).toArray.size = (mp 1099511627776 ofk).toArray.size by rw [List.size_toArray, List.size_toArray, mp_length, mp_length, Hk8.out, Hz8.out]; rfl)
        have Hend : Hid (1099511627776 < V + (L.length : Int)) := by have := HVk.out; have := Hn.out; show 1099511627776 < V + (L.length : Int); omega
        clear hfull hbx gs1 gs2 gs3 hVmax
        go_wp2_with (first
          | (refine wpList_map_new rfl (.tmp 10) (.tmp 29) rfl rfl 0 (List.replicate 8 0) HZ8.out rfl ?_)
          | (refine wpList_load_map (by rfl) (.tmp 2) rfl w.heap.size rfl 1099511627776 ofk Hk8.out HBn.out ?_)
          | (refine wpList_store_row rfl _ (.tmp 4) (.tmp 33) rfl (w.heap.size + 1) (mp 1099511627776 ofk).toArray rfl rfl 34 (mp 0 z8).toArray HRn.out (HsM.out _ _ Hk8.out) Hsz.out (HoM.out _ _) ?_))
        refine bodyPost_ret (v := .tuple #[.agg (mp 1099511627776 ofk).toArray, .int .i64 (k : Int), .int .i64 50]) ?_ rfl ⟨.inr ⟨Hend.out, 1099511627776, ofk, _, Hk8.out, rfl⟩, below_setRow hbn (by omega) _⟩
        · exact results_cell_tmp2_blk (p := 4) (u := 5) (u' := 6) rfl _ _ rfl (HRn.out.row (mp 1099511627776 ofk)) Try.underlying34 rfl (HsM.out _ _ Hk8.out)
    · have hkn : k = n := by omega
      have hlt' : ¬ (k : Int) < (n : Int) := by omega
      rw [hkn, List.take_of_length_le (by rw [Hn.out]; exact Nat.le_refl _)] at hB
      rw [hkn] at hVk
      have h8n : Hid ((ap of L).length = 8) := by unfold Hid; rw [ap_length]; exact H8.out
      have Hsz := Lib.hid (show (mp 0 z8).toArray.size = (mp (V + (n : Int)) (ap of L)).toArray.size by rw [List.size_toArray, List.size_toArray, mp_length, mp_length, h8n.out, Hz8.out]; rfl)
      clear hkn
      go_wp2_with (first
        | (refine wpList_load_map (by rfl) (.tmp 2) rfl w.heap.size rfl (V + (n : Int)) (ap of L) h8n.out hB.out ?_)
        | (refine wpList_store_row rfl _ (.tmp 4) (.tmp 38) rfl (w.heap.size + 1) (mp (V + (n : Int)) (ap of L)).toArray rfl rfl 34 (mp 0 z8).toArray hR.out (HsM.out _ _ h8n.out) Hsz.out (HoM.out _ _) ?_))
      refine bodyPost_ret (v := .tuple #[.agg (mp (V + (n : Int)) (ap of L)).toArray, .int .i64 (n : Int), .int .i64 0]) ?_ rfl ⟨.inl ⟨?_, ?_⟩, below_setRow hb (by omega) _⟩
      · exact results_cell_tmp2_blk (p := 4) (u := 5) (u' := 6) rfl _ _ rfl (hR.out.row (mp (V + (n : Int)) (ap of L))) Try.underlying34 rfl (HsM.out _ _ h8n.out)
      · rw [← Hn.out]; exact hVk.out
      · rw [← Hn.out]
end Go.Proofs.Ytbleebiffpkcmaa
