/- The walk of package frame's Join. -/
import Derived.Test.YtcaejcdmkihmbaaFrameL
import Derived.WalkMore
namespace Go.Proofs.Ytcaejcdmkihmbaa
open Go.RowKit

theorem n32_inj {a b : BitVec 32} (h : n32 a = n32 b) : a = b := by
  unfold n32 at h
  exact BitVec.eq_of_toNat_eq (by omega)

theorem may_seq {s i p o : Int} {n : Nat} (h : Fr.may s i p o n = true) : 1 ≤ s ∧ s ≤ 1099511627776 := by
  unfold Fr.may at h
  rw [decide_eq_true_eq] at h
  omega

theorem join_bad {L : List FV} {k : Nat} {x y : FV} (hy : L[0]? = some y) (hx : L[k]? = some x) (h : ¬ goodF x.f y.f k L.length) : ¬ Joins L := by
  rintro ⟨z, hz, hg, _⟩
  rw [hy] at hz
  cases hz
  exact h (hg k x hx)

theorem own_ge {w : World} {base n size : Nat} {e : TypeId} {v : Value} {xs : List Value} (h : w.ownsRow base e size v n xs) {g : Nat} (hg : v.ownBlock = some g) : base ≤ g := by
  rcases h.2 with ⟨rfl, rfl⟩ | ⟨g', cap, cur, rfl, hge, _⟩
  · simp [Value.ownBlock] at hg
  · simp only [Value.ownBlock, Option.some.injEq] at hg
    omega

set_option maxRecDepth 100000 in
set_option maxHeartbeats 16000000 in
theorem fjoin_any (A : Option Addr) (L : List FV) (n c : Nat) (w : World) (hA : At w A (fcells L)) (hR : Reads w L) (hn : n = L.length) (hn1 : 1 ≤ n) (hn2 : n ≤ 2) (hlen : ∀ x ∈ L, x.f.load.length ≤ 100000) :
    Calls Try.prog 10 #[.slice A n c] w fun e w' => ((∃ v, e = .returned (.tuple #[v, .int .i64 0]) ∧ w'.ownsRow w.heap.size 5 1 v (fcat L).length (bs (fcat L)) ∧ Joins L) ∨ (e = .returned (.tuple #[.slice none 0 0, .int .i64 40]) ∧ ¬ Joins L)) ∧ Below w.heap.size w w' := by
  obtain ⟨b, off, rfl, hbl, -⟩ := hA.all (by rw [fcells_length]; omega)
  have HA := Lib.hid hA
  have HR := Lib.hid hR
  have Hn := Lib.hid hn
  have Hlen := Lib.hid hlen
  obtain ⟨⟨⟨s0, i0, p0, o0, m0, l0⟩, B0, d0⟩, hy⟩ : ∃ y, L[0]? = some y := ⟨_, List.getElem?_eq_getElem (by omega)⟩
  have Hy := Lib.hid hy
  have Hcat : Hid (∀ k, k ≤ 2 → (fcat (L.take k)).length ≤ 200000) := fun k hk => by have := fcat_le L k 100000 hlen hk; omega
  clear hA hR hn hlen hy
  have g1 : (0 : Int) < (n : Int) := by omega
  have g2 : (n : Int) ≤ 2 := by omega
  go_enter Try.func10, Try.ntmps10
  go_wp2_with fail
  go_step3
  go_wp2_with fail
  go_step3
  go_wp2_with fail
  go_loopw [2, 4, 17] (fun bv okv i wr => ∃ k : Nat, k ≤ n ∧ i = .int .i64 k ∧ okv = .bool true ∧ Hid (wr.ownsRow w.heap.size 5 1 bv (fcat (L.take k)).length (bs (fcat (L.take k)))) ∧ Hid (∀ j x, j < k → L[j]? = some x → goodF x.f ⟨s0, i0, p0, o0, m0, l0⟩ j n) ∧ Below w.heap.size w wr) (fun _ _ i _ => n - (intOf i).toNat)
  case atStart => exact ⟨0, by omega, rfl, rfl, World.ownsRow_nil _ _ _ _, fun j x h => by omega, Below.refl _ _⟩
  case round =>
    obtain ⟨k, hk, rfl, rfl, hown, hgood, hb⟩ := hrel
    by_cases hlt : (k : Int) < (n : Int)
    · obtain ⟨x, hx⟩ : ∃ x, L[k]? = some x := ⟨_, List.getElem?_eq_getElem (by have := Hn.out; omega)⟩
      have Hx := Lib.hid hx
      clear hx
      obtain ⟨⟨s, i, p, o, m, l⟩, B, d⟩ := x
      have HX := Lib.hid (HA.out.below hb (Nat.le_refl _) |>.frame Hx.out)
      have HYr := Lib.hid (HA.out.below hb (Nat.le_refl _) |>.frame Hy.out)
      have HB := Lib.hid (HR.out.below hb (Nat.le_refl _) _ (List.mem_of_getElem? Hx.out))
      have Hll := Lib.hid (Hlen.out _ (List.mem_of_getElem? Hx.out))
      have k0 : (0 : Int) ≤ (k : Int) := by omega
      have HI := Lib.hid (show (Try.prog.info? 33).map (·.size) = some (fc s i p o (n32 m) B l.length d).length by kernel_rfl)
      go_wp2_with (refine wpList_load_at rfl 33 (.tmp 20) rfl b (off + k * 6) rfl [.int .i64 s, .int .i64 i, .int .i64 p, .int .i64 o, .int .u32 (n32 m), .slice B l.length d] _ HX.out (Nat.zero_lt_succ _) Try.underlying33 rfl HI.out ?_)
      have hF : Blk (wr.alloc (.cells (fc s i p o (n32 m) B l.length d).toArray 33)) wr.heap.size 33 (fc s i p o (n32 m) B l.length d) := Blk.new _ _ _
      have hY := HYr.out.alloc (.cells (fc s i p o (n32 m) B l.length d).toArray 33)
      have hBw := HB.out.alloc (.cells (fc s i p o (n32 m) B l.length d).toArray 33)
      have hbw : Below wr.heap.size wr (wr.alloc (.cells (fc s i p o (n32 m) B l.length d).toArray 33)) := (Below.refl _ _).alloc (Nat.le_refl _) _
      change Code.wp _ _ _ _ (wr.alloc (.cells (fc s i p o (n32 m) B l.length d).toArray 33))
      generalize wr.alloc (.cells (fc s i p o (n32 m) B l.length d).toArray 33) = W at hF hY hBw hbw ⊢
      obtain ⟨b', off', e', hbW, hYc⟩ := hY.all (Nat.zero_lt_succ _)
      cases e'
      have HF := Lib.hid hF
      have HBw := Lib.hid hBw
      have F0 : ∀ w', Below W.heap.size W w' → w'.cell? ⟨wr.heap.size, 0, none⟩ = some (.int .i64 s) := fun w' h => (hF.below h hF.lt).cell 0
      have F1 : ∀ w', Below W.heap.size W w' → w'.cell? ⟨wr.heap.size, 1, none⟩ = some (.int .i64 i) := fun w' h => (hF.below h hF.lt).cell 1
      have F2 : ∀ w', Below W.heap.size W w' → w'.cell? ⟨wr.heap.size, 2, none⟩ = some (.int .i64 p) := fun w' h => (hF.below h hF.lt).cell 2
      have F3 : ∀ w', Below W.heap.size W w' → w'.cell? ⟨wr.heap.size, 3, none⟩ = some (.int .i64 o) := fun w' h => (hF.below h hF.lt).cell 3
      have F4 : ∀ w', Below W.heap.size W w' → w'.cell? ⟨wr.heap.size, 4, none⟩ = some (.int .u32 (n32 m)) := fun w' h => (hF.below h hF.lt).cell 4
      have F5 : ∀ w', Below W.heap.size W w' → w'.cell? ⟨wr.heap.size, 5, none⟩ = some (.slice B l.length d) := fun w' h => (hF.below h hF.lt).cell 5
      have Y0 : ∀ w', Below W.heap.size W w' → w'.cell? ⟨b, off, none⟩ = some (.int .i64 s0) := fun w' h => (h.cell (p := ⟨b, off, none⟩) hbW).trans (by have := hYc 0 _ rfl; simpa using this)
      have Y1 : ∀ w', Below W.heap.size W w' → w'.cell? ⟨b, off + 1, none⟩ = some (.int .i64 i0) := fun w' h => (h.cell (p := ⟨b, off + 1, none⟩) hbW).trans (by have := hYc 1 _ rfl; simpa using this)
      have Y4 : ∀ w', Below W.heap.size W w' → w'.cell? ⟨b, off + 4, none⟩ = some (.int .u32 (n32 m0)) := fun w' h => (h.cell (p := ⟨b, off + 4, none⟩) hbW).trans (by have := hYc 4 _ rfl; simpa using this)
      have hbwd : Below W.heap.size W W.drew := (Below.refl _ _).drew
      have hbW2 := hb.trans (hbw.mono hb.size)
      have g3 : decide ((0 : Int) < (n : Int)) = true := by simp; omega
      have hlw : ∀ (w' : World) (ty : TypeId), (Builtin.len_ #[24] ty #[.slice (some ⟨b, off, none⟩) n c]).run Try.prog w' = .ok (.int .i64 n) w' := fun w' ty => by go_simp
      have hwr : Fr.may s i p o l.length = true → IntKind.i64.wrap (s0 + (k : Int)) = s0 + (k : Int) := by
        intro hm
        have hs0 : 1 ≤ s0 ∧ s0 ≤ 1099511627776 := by
          rcases Nat.eq_zero_or_pos k with rfl | hk0
          · have := Hx.out
            rw [Hy.out] at this
            cases this
            exact may_seq hm
          · have := hgood.out 0 _ hk0 Hy.out
            exact may_seq this.1
        exact IntWalk.i64_in _ (by omega)
      clear hF hY hBw hYc HYr
      have hcase : Fr.may s i p o l.length = false ∨ (Fr.may s i p o l.length = true ∧ IntKind.i64.wrap (s0 + (k : Int)) = s0 + (k : Int) ∧
          ((p == (k : Int)) = false ∨ (p = (k : Int) ∧ ((o == (n : Int)) = false ∨ (o = (n : Int) ∧ ((s == s0 + (k : Int)) = false ∨ (s = s0 + (k : Int) ∧ ((i == i0) = false ∨ (i = i0 ∧ ((n32 m == n32 m0) = false ∨ m = m0)))))))))) := by
        rcases Bool.eq_false_or_eq_true (Fr.may s i p o l.length) with h | h
        · right
          refine ⟨h, hwr h, ?_⟩
          by_cases h2 : p = (k : Int)
          · right; refine ⟨h2, ?_⟩
            by_cases h3 : o = (n : Int)
            · right; refine ⟨h3, ?_⟩
              by_cases h4 : s = s0 + (k : Int)
              · right; refine ⟨h4, ?_⟩
                by_cases h5 : i = i0
                · right; refine ⟨h5, ?_⟩
                  by_cases h6 : m = m0
                  · exact .inr h6
                  · left; simp only [beq_eq_false_iff_ne, ne_eq]; exact fun e => h6 (n32_inj e)
                · left; simpa using h5
              · left; simpa using h4
            · left; simpa using h3
          · left; simpa using h2
        · exact .inl h
      clear hwr
      rcases hcase with h1 | ⟨h1, hwr, h2 | ⟨rfl, h3 | ⟨rfl, h4 | ⟨rfl, h5 | ⟨rfl, h6 | rfl⟩⟩⟩⟩⟩
      · have H1 := Lib.hid h1
        clear h1
        refine region_plan (S := fun w' => Below W.heap.size W w') [(true, 0), (true, 1), (true, 2), (false, 3), (true, 4), (true, 5), (true, 6), (true, 7), (true, 8), (true, 9), (true, 10), (true, 11), (true, 12), (true, 13), (true, 14), (true, 15), (true, 16), (true, 17), (true, 18), (true, 19), (true, 20), (true, 21), (true, 22), (true, 23), (true, 24), (true, 25), (true, 26), (true, 27), (true, 28), (true, 29), (true, 30), (true, 31), (true, 32), (true, 33), (true, 34), (true, 35), (true, 36), (true, 37), (true, 38), (true, 39), (true, 40), (true, 41), (true, 42), (true, 43), (true, 44), (true, 45), (true, 46), (true, 47)] (by kernel_rfl) (by kernel_rfl) (by kernel_rfl) rfl hbwd ?_
        simp only [planned_nil, planned_cons, nth_zero, nth_succ]
        iterate 3
          first
            | (refine plan_still2 (v := ?_) (a' := ?_) (by rfl) (fun w' hS' => ?_) ?_ ?_; rotate_left 2; (focus (go_simp <;> with_reducible rfl)); (focus (simp only [Act.put, List.setIfInBounds_toArray, List.set_cons_zero, List.set_cons_succ] <;> rfl)))
            | (refine plan_skip2 (a' := ?_) (by rfl) ?_ ?_; rotate_left 1; (focus (simp only [Act.put, List.setIfInBounds_toArray, List.set_cons_zero, List.set_cons_succ] <;> rfl)))
        refine plan_do (by rfl) (fun K' hK' => ?_)
        go_simp
        refine (fmay_any s i p o (n32 m) B l.length d _ (by have := Hll.out; exact Nat.le_trans this (by decide))).mono ?_
        rintro e w3 ⟨rfl, hw3⟩
        rw [H1.out]
        have hbw3 : Below W.heap.size W w3 := hbwd.trans (hw3.mono hbwd.size)
        refine hK'.out _ _ hbw3 ?_
        clear hK' K'
        iterate 44
          first
            | (refine plan_still2 (v := ?_) (a' := ?_) (by rfl) (fun w' hS' => ?_) ?_ ?_; rotate_left 2; (focus (go_simp <;> with_reducible rfl)); (focus (simp only [Act.put, List.setIfInBounds_toArray, List.set_cons_zero, List.set_cons_succ] <;> rfl)))
            | (refine plan_skip2 (a' := ?_) (by rfl) ?_ ?_; rotate_left 1; (focus (simp only [Act.put, List.setIfInBounds_toArray, List.set_cons_zero, List.set_cons_succ] <;> rfl)))
        refine plan_nil ?_
        go_wp2_with fail
        refine region_plan (S := fun w' => Below w3.heap.size w3 w') [(true, 0), (true, 1), (true, 2), (true, 3), (true, 4), (true, 5), (true, 6), (true, 7), (true, 8), (true, 9), (true, 10)] (by kernel_rfl) (by kernel_rfl) (by kernel_rfl) rfl ((Below.refl _ _).drew) ?_
        simp only [planned_nil, planned_cons, nth_zero, nth_succ]
        iterate 11
          first
            | (refine plan_still2 (v := ?_) (a' := ?_) (by rfl) (fun w' hS' => ?_) ?_ ?_; rotate_left 2; (focus (go_simp <;> with_reducible rfl)); (focus (simp only [Act.put, List.setIfInBounds_toArray, List.set_cons_zero, List.set_cons_succ] <;> rfl)))
            | (refine plan_skip2 (a' := ?_) (by rfl) ?_ ?_; rotate_left 1; (focus (simp only [Act.put, List.setIfInBounds_toArray, List.set_cons_zero, List.set_cons_succ] <;> rfl)))
        refine plan_nil ?_
        go_wp2_with fail
        try rw [Exit.noGoto_ret]
        go_ret2
        exact ⟨.inr ⟨rfl, join_bad Hy.out Hx.out (fun h => by have h' : Fr.may s i p o l.length = true := h.1; rw [H1.out] at h'; cases h')⟩, (hbW2.trans (hbw3.mono hbW2.size)).drew⟩
      · have H1 := Lib.hid h1
        have HB2 := Lib.hid h2
        clear h1
        refine region_plan (S := fun w' => Below W.heap.size W w') [(true, 0), (true, 1), (true, 2), (false, 3), (true, 4), (true, 5), (true, 6), (true, 7), (true, 8), (true, 9), (true, 10), (true, 11), (true, 12), (true, 13), (true, 14), (true, 15), (true, 16), (true, 17), (true, 18), (true, 19), (true, 20), (true, 21), (true, 22), (true, 23), (true, 24), (true, 25), (true, 26), (true, 27), (true, 28), (true, 29), (true, 30), (true, 31), (true, 32), (true, 33), (true, 34), (true, 35), (true, 36), (true, 37), (true, 38), (true, 39), (true, 40), (true, 41), (true, 42), (true, 43), (true, 44), (true, 45), (true, 46), (true, 47)] (by kernel_rfl) (by kernel_rfl) (by kernel_rfl) rfl hbwd ?_
        simp only [planned_nil, planned_cons, nth_zero, nth_succ]
        iterate 3
          first
            | (refine plan_still2 (v := ?_) (a' := ?_) (by rfl) (fun w' hS' => ?_) ?_ ?_; rotate_left 2; (focus (go_simp <;> with_reducible rfl)); (focus (simp only [Act.put, List.setIfInBounds_toArray, List.set_cons_zero, List.set_cons_succ] <;> rfl)))
            | (refine plan_skip2 (a' := ?_) (by rfl) ?_ ?_; rotate_left 1; (focus (simp only [Act.put, List.setIfInBounds_toArray, List.set_cons_zero, List.set_cons_succ] <;> rfl)))
        refine plan_do (by rfl) (fun K' hK' => ?_)
        go_simp
        refine (fmay_any s i p o (n32 m) B l.length d _ (by have := Hll.out; exact Nat.le_trans this (by decide))).mono ?_
        rintro e w3 ⟨rfl, hw3⟩
        rw [H1.out]
        have hbw3 : Below W.heap.size W w3 := hbwd.trans (hw3.mono hbwd.size)
        refine hK'.out _ _ hbw3 ?_
        clear hK' K'
        iterate 44
          first
            | (refine plan_still2 (v := ?_) (a' := ?_) (by rfl) (fun w' hS' => ?_) ?_ ?_; rotate_left 2; (focus (go_simp <;> with_reducible rfl)); (focus (simp only [Act.put, List.setIfInBounds_toArray, List.set_cons_zero, List.set_cons_succ] <;> rfl)))
            | (refine plan_skip2 (a' := ?_) (by rfl) ?_ ?_; rotate_left 1; (focus (simp only [Act.put, List.setIfInBounds_toArray, List.set_cons_zero, List.set_cons_succ] <;> rfl)))
        refine plan_nil ?_
        go_wp2_with fail
        refine region_plan (S := fun w' => Below w3.heap.size w3 w') [(true, 0), (true, 1), (true, 2), (true, 3), (true, 4), (true, 5), (true, 6), (true, 7), (true, 8), (true, 9), (true, 10)] (by kernel_rfl) (by kernel_rfl) (by kernel_rfl) rfl ((Below.refl _ _).drew) ?_
        simp only [planned_nil, planned_cons, nth_zero, nth_succ]
        iterate 11
          first
            | (refine plan_still2 (v := ?_) (a' := ?_) (by rfl) (fun w' hS' => ?_) ?_ ?_; rotate_left 2; (focus (go_simp <;> with_reducible rfl)); (focus (simp only [Act.put, List.setIfInBounds_toArray, List.set_cons_zero, List.set_cons_succ] <;> rfl)))
            | (refine plan_skip2 (a' := ?_) (by rfl) ?_ ?_; rotate_left 1; (focus (simp only [Act.put, List.setIfInBounds_toArray, List.set_cons_zero, List.set_cons_succ] <;> rfl)))
        refine plan_nil ?_
        go_wp2_with fail
        try rw [Exit.noGoto_ret]
        go_ret2
        exact ⟨.inr ⟨rfl, join_bad Hy.out Hx.out (fun h => by have h' : p = (k : Int) := h.2.1; have e := HB2.out; rw [h'] at e; simp at e)⟩, (hbW2.trans (hbw3.mono hbW2.size)).drew⟩
      · have H1 := Lib.hid h1
        have HB2 := Lib.hid h3
        clear h1
        refine region_plan (S := fun w' => Below W.heap.size W w') [(true, 0), (true, 1), (true, 2), (false, 3), (true, 4), (true, 5), (true, 6), (true, 7), (true, 8), (true, 9), (true, 10), (true, 11), (true, 12), (true, 13), (true, 14), (true, 15), (true, 16), (true, 17), (true, 18), (true, 19), (true, 20), (true, 21), (true, 22), (true, 23), (true, 24), (true, 25), (true, 26), (true, 27), (true, 28), (true, 29), (true, 30), (true, 31), (true, 32), (true, 33), (true, 34), (true, 35), (true, 36), (true, 37), (true, 38), (true, 39), (true, 40), (true, 41), (true, 42), (true, 43), (true, 44), (true, 45), (true, 46), (true, 47)] (by kernel_rfl) (by kernel_rfl) (by kernel_rfl) rfl hbwd ?_
        simp only [planned_nil, planned_cons, nth_zero, nth_succ]
        iterate 3
          first
            | (refine plan_still2 (v := ?_) (a' := ?_) (by rfl) (fun w' hS' => ?_) ?_ ?_; rotate_left 2; (focus (go_simp <;> with_reducible rfl)); (focus (simp only [Act.put, List.setIfInBounds_toArray, List.set_cons_zero, List.set_cons_succ] <;> rfl)))
            | (refine plan_skip2 (a' := ?_) (by rfl) ?_ ?_; rotate_left 1; (focus (simp only [Act.put, List.setIfInBounds_toArray, List.set_cons_zero, List.set_cons_succ] <;> rfl)))
        refine plan_do (by rfl) (fun K' hK' => ?_)
        go_simp
        refine (fmay_any s i (k : Int) o (n32 m) B l.length d _ (by have := Hll.out; exact Nat.le_trans this (by decide))).mono ?_
        rintro e w3 ⟨rfl, hw3⟩
        rw [H1.out]
        have hbw3 : Below W.heap.size W w3 := hbwd.trans (hw3.mono hbwd.size)
        refine hK'.out _ _ hbw3 ?_
        clear hK' K'
        iterate 44
          first
            | (refine plan_still2 (v := ?_) (a' := ?_) (by rfl) (fun w' hS' => ?_) ?_ ?_; rotate_left 2; (focus (go_simp <;> with_reducible rfl)); (focus (simp only [Act.put, List.setIfInBounds_toArray, List.set_cons_zero, List.set_cons_succ] <;> rfl)))
            | (refine plan_skip2 (a' := ?_) (by rfl) ?_ ?_; rotate_left 1; (focus (simp only [Act.put, List.setIfInBounds_toArray, List.set_cons_zero, List.set_cons_succ] <;> rfl)))
        refine plan_nil ?_
        go_wp2_with fail
        refine region_plan (S := fun w' => Below w3.heap.size w3 w') [(true, 0), (true, 1), (true, 2), (true, 3), (true, 4), (true, 5), (true, 6), (true, 7), (true, 8), (true, 9), (true, 10)] (by kernel_rfl) (by kernel_rfl) (by kernel_rfl) rfl ((Below.refl _ _).drew) ?_
        simp only [planned_nil, planned_cons, nth_zero, nth_succ]
        iterate 11
          first
            | (refine plan_still2 (v := ?_) (a' := ?_) (by rfl) (fun w' hS' => ?_) ?_ ?_; rotate_left 2; (focus (go_simp <;> with_reducible rfl)); (focus (simp only [Act.put, List.setIfInBounds_toArray, List.set_cons_zero, List.set_cons_succ] <;> rfl)))
            | (refine plan_skip2 (a' := ?_) (by rfl) ?_ ?_; rotate_left 1; (focus (simp only [Act.put, List.setIfInBounds_toArray, List.set_cons_zero, List.set_cons_succ] <;> rfl)))
        refine plan_nil ?_
        go_wp2_with fail
        try rw [Exit.noGoto_ret]
        go_ret2
        exact ⟨.inr ⟨rfl, join_bad Hy.out Hx.out (fun h => by have h' : o = (L.length : Int) := h.2.2.1; have e := HB2.out; rw [h', Hn.out] at e; simp at e)⟩, (hbW2.trans (hbw3.mono hbW2.size)).drew⟩
      · have H1 := Lib.hid h1
        have HB2 := Lib.hid h4
        clear h1
        refine region_plan (S := fun w' => Below W.heap.size W w') [(true, 0), (true, 1), (true, 2), (false, 3), (true, 4), (true, 5), (true, 6), (true, 7), (true, 8), (true, 9), (true, 10), (true, 11), (true, 12), (true, 13), (true, 14), (true, 15), (true, 16), (true, 17), (true, 18), (true, 19), (true, 20), (true, 21), (true, 22), (true, 23), (true, 24), (true, 25), (true, 26), (true, 27), (true, 28), (true, 29), (true, 30), (true, 31), (true, 32), (true, 33), (true, 34), (true, 35), (true, 36), (true, 37), (true, 38), (true, 39), (true, 40), (true, 41), (true, 42), (true, 43), (true, 44), (true, 45), (true, 46), (true, 47)] (by kernel_rfl) (by kernel_rfl) (by kernel_rfl) rfl hbwd ?_
        simp only [planned_nil, planned_cons, nth_zero, nth_succ]
        iterate 3
          first
            | (refine plan_still2 (v := ?_) (a' := ?_) (by rfl) (fun w' hS' => ?_) ?_ ?_; rotate_left 2; (focus (go_simp <;> with_reducible rfl)); (focus (simp only [Act.put, List.setIfInBounds_toArray, List.set_cons_zero, List.set_cons_succ] <;> rfl)))
            | (refine plan_skip2 (a' := ?_) (by rfl) ?_ ?_; rotate_left 1; (focus (simp only [Act.put, List.setIfInBounds_toArray, List.set_cons_zero, List.set_cons_succ] <;> rfl)))
        refine plan_do (by rfl) (fun K' hK' => ?_)
        go_simp
        refine (fmay_any s i (k : Int) (n : Int) (n32 m) B l.length d _ (by have := Hll.out; exact Nat.le_trans this (by decide))).mono ?_
        rintro e w3 ⟨rfl, hw3⟩
        rw [H1.out]
        have hbw3 : Below W.heap.size W w3 := hbwd.trans (hw3.mono hbwd.size)
        refine hK'.out _ _ hbw3 ?_
        clear hK' K'
        iterate 44
          first
            | (refine plan_still2 (v := ?_) (a' := ?_) (by rfl) (fun w' hS' => ?_) ?_ ?_; rotate_left 2; (focus (go_simp <;> with_reducible rfl)); (focus (simp only [Act.put, List.setIfInBounds_toArray, List.set_cons_zero, List.set_cons_succ] <;> rfl)))
            | (refine plan_skip2 (a' := ?_) (by rfl) ?_ ?_; rotate_left 1; (focus (simp only [Act.put, List.setIfInBounds_toArray, List.set_cons_zero, List.set_cons_succ] <;> rfl)))
        refine plan_nil ?_
        go_wp2_with fail
        refine region_plan (S := fun w' => Below w3.heap.size w3 w') [(true, 0), (true, 1), (true, 2), (true, 3), (true, 4), (true, 5), (true, 6), (true, 7), (true, 8), (true, 9), (true, 10)] (by kernel_rfl) (by kernel_rfl) (by kernel_rfl) rfl ((Below.refl _ _).drew) ?_
        simp only [planned_nil, planned_cons, nth_zero, nth_succ]
        iterate 11
          first
            | (refine plan_still2 (v := ?_) (a' := ?_) (by rfl) (fun w' hS' => ?_) ?_ ?_; rotate_left 2; (focus (go_simp <;> with_reducible rfl)); (focus (simp only [Act.put, List.setIfInBounds_toArray, List.set_cons_zero, List.set_cons_succ] <;> rfl)))
            | (refine plan_skip2 (a' := ?_) (by rfl) ?_ ?_; rotate_left 1; (focus (simp only [Act.put, List.setIfInBounds_toArray, List.set_cons_zero, List.set_cons_succ] <;> rfl)))
        refine plan_nil ?_
        go_wp2_with fail
        try rw [Exit.noGoto_ret]
        go_ret2
        exact ⟨.inr ⟨rfl, join_bad Hy.out Hx.out (fun h => by have h' : s = s0 + (k : Int) := h.2.2.2.1; have e := HB2.out; rw [h'] at e; simp at e)⟩, (hbW2.trans (hbw3.mono hbW2.size)).drew⟩
      · have H1 := Lib.hid h1
        have HB2 := Lib.hid h5
        clear h1
        refine region_plan (S := fun w' => Below W.heap.size W w') [(true, 0), (true, 1), (true, 2), (false, 3), (true, 4), (true, 5), (true, 6), (true, 7), (true, 8), (true, 9), (true, 10), (true, 11), (true, 12), (true, 13), (true, 14), (true, 15), (true, 16), (true, 17), (true, 18), (true, 19), (true, 20), (true, 21), (true, 22), (true, 23), (true, 24), (true, 25), (true, 26), (true, 27), (true, 28), (true, 29), (true, 30), (true, 31), (true, 32), (true, 33), (true, 34), (true, 35), (true, 36), (true, 37), (true, 38), (true, 39), (true, 40), (true, 41), (true, 42), (true, 43), (true, 44), (true, 45), (true, 46), (true, 47)] (by kernel_rfl) (by kernel_rfl) (by kernel_rfl) rfl hbwd ?_
        simp only [planned_nil, planned_cons, nth_zero, nth_succ]
        iterate 3
          first
            | (refine plan_still2 (v := ?_) (a' := ?_) (by rfl) (fun w' hS' => ?_) ?_ ?_; rotate_left 2; (focus (go_simp <;> with_reducible rfl)); (focus (simp only [Act.put, List.setIfInBounds_toArray, List.set_cons_zero, List.set_cons_succ] <;> rfl)))
            | (refine plan_skip2 (a' := ?_) (by rfl) ?_ ?_; rotate_left 1; (focus (simp only [Act.put, List.setIfInBounds_toArray, List.set_cons_zero, List.set_cons_succ] <;> rfl)))
        refine plan_do (by rfl) (fun K' hK' => ?_)
        go_simp
        refine (fmay_any (s0 + (k : Int)) i (k : Int) (n : Int) (n32 m) B l.length d _ (by have := Hll.out; exact Nat.le_trans this (by decide))).mono ?_
        rintro e w3 ⟨rfl, hw3⟩
        rw [H1.out]
        have hbw3 : Below W.heap.size W w3 := hbwd.trans (hw3.mono hbwd.size)
        refine hK'.out _ _ hbw3 ?_
        clear hK' K'
        iterate 44
          first
            | (refine plan_still2 (v := ?_) (a' := ?_) (by rfl) (fun w' hS' => ?_) ?_ ?_; rotate_left 2; (focus (go_simp <;> with_reducible rfl)); (focus (simp only [Act.put, List.setIfInBounds_toArray, List.set_cons_zero, List.set_cons_succ] <;> rfl)))
            | (refine plan_skip2 (a' := ?_) (by rfl) ?_ ?_; rotate_left 1; (focus (simp only [Act.put, List.setIfInBounds_toArray, List.set_cons_zero, List.set_cons_succ] <;> rfl)))
        refine plan_nil ?_
        go_wp2_with fail
        refine region_plan (S := fun w' => Below w3.heap.size w3 w') [(true, 0), (true, 1), (true, 2), (true, 3), (true, 4), (true, 5), (true, 6), (true, 7), (true, 8), (true, 9), (true, 10)] (by kernel_rfl) (by kernel_rfl) (by kernel_rfl) rfl ((Below.refl _ _).drew) ?_
        simp only [planned_nil, planned_cons, nth_zero, nth_succ]
        iterate 11
          first
            | (refine plan_still2 (v := ?_) (a' := ?_) (by rfl) (fun w' hS' => ?_) ?_ ?_; rotate_left 2; (focus (go_simp <;> with_reducible rfl)); (focus (simp only [Act.put, List.setIfInBounds_toArray, List.set_cons_zero, List.set_cons_succ] <;> rfl)))
            | (refine plan_skip2 (a' := ?_) (by rfl) ?_ ?_; rotate_left 1; (focus (simp only [Act.put, List.setIfInBounds_toArray, List.set_cons_zero, List.set_cons_succ] <;> rfl)))
        refine plan_nil ?_
        go_wp2_with fail
        try rw [Exit.noGoto_ret]
        go_ret2
        exact ⟨.inr ⟨rfl, join_bad Hy.out Hx.out (fun h => by have h' : i = i0 := h.2.2.2.2.1; have e := HB2.out; rw [h'] at e; simp at e)⟩, (hbW2.trans (hbw3.mono hbW2.size)).drew⟩
      · have H1 := Lib.hid h1
        have HB2 := Lib.hid h6
        clear h1
        refine region_plan (S := fun w' => Below W.heap.size W w') [(true, 0), (true, 1), (true, 2), (false, 3), (true, 4), (true, 5), (true, 6), (true, 7), (true, 8), (true, 9), (true, 10), (true, 11), (true, 12), (true, 13), (true, 14), (true, 15), (true, 16), (true, 17), (true, 18), (true, 19), (true, 20), (true, 21), (true, 22), (true, 23), (true, 24), (true, 25), (true, 26), (true, 27), (true, 28), (true, 29), (true, 30), (true, 31), (true, 32), (true, 33), (true, 34), (true, 35), (true, 36), (true, 37), (true, 38), (true, 39), (true, 40), (true, 41), (true, 42), (true, 43), (true, 44), (true, 45), (true, 46), (true, 47)] (by kernel_rfl) (by kernel_rfl) (by kernel_rfl) rfl hbwd ?_
        simp only [planned_nil, planned_cons, nth_zero, nth_succ]
        iterate 3
          first
            | (refine plan_still2 (v := ?_) (a' := ?_) (by rfl) (fun w' hS' => ?_) ?_ ?_; rotate_left 2; (focus (go_simp <;> with_reducible rfl)); (focus (simp only [Act.put, List.setIfInBounds_toArray, List.set_cons_zero, List.set_cons_succ] <;> rfl)))
            | (refine plan_skip2 (a' := ?_) (by rfl) ?_ ?_; rotate_left 1; (focus (simp only [Act.put, List.setIfInBounds_toArray, List.set_cons_zero, List.set_cons_succ] <;> rfl)))
        refine plan_do (by rfl) (fun K' hK' => ?_)
        go_simp
        refine (fmay_any (s0 + (k : Int)) i (k : Int) (n : Int) (n32 m) B l.length d _ (by have := Hll.out; exact Nat.le_trans this (by decide))).mono ?_
        rintro e w3 ⟨rfl, hw3⟩
        rw [H1.out]
        have hbw3 : Below W.heap.size W w3 := hbwd.trans (hw3.mono hbwd.size)
        refine hK'.out _ _ hbw3 ?_
        clear hK' K'
        iterate 44
          first
            | (refine plan_still2 (v := ?_) (a' := ?_) (by rfl) (fun w' hS' => ?_) ?_ ?_; rotate_left 2; (focus (go_simp <;> with_reducible rfl)); (focus (simp only [Act.put, List.setIfInBounds_toArray, List.set_cons_zero, List.set_cons_succ] <;> rfl)))
            | (refine plan_skip2 (a' := ?_) (by rfl) ?_ ?_; rotate_left 1; (focus (simp only [Act.put, List.setIfInBounds_toArray, List.set_cons_zero, List.set_cons_succ] <;> rfl)))
        refine plan_nil ?_
        go_wp2_with fail
        refine region_plan (S := fun w' => Below w3.heap.size w3 w') [(true, 0), (true, 1), (true, 2), (true, 3), (true, 4), (true, 5), (true, 6), (true, 7), (true, 8), (true, 9), (true, 10)] (by kernel_rfl) (by kernel_rfl) (by kernel_rfl) rfl ((Below.refl _ _).drew) ?_
        simp only [planned_nil, planned_cons, nth_zero, nth_succ]
        iterate 11
          first
            | (refine plan_still2 (v := ?_) (a' := ?_) (by rfl) (fun w' hS' => ?_) ?_ ?_; rotate_left 2; (focus (go_simp <;> with_reducible rfl)); (focus (simp only [Act.put, List.setIfInBounds_toArray, List.set_cons_zero, List.set_cons_succ] <;> rfl)))
            | (refine plan_skip2 (a' := ?_) (by rfl) ?_ ?_; rotate_left 1; (focus (simp only [Act.put, List.setIfInBounds_toArray, List.set_cons_zero, List.set_cons_succ] <;> rfl)))
        refine plan_nil ?_
        go_wp2_with fail
        try rw [Exit.noGoto_ret]
        go_ret2
        exact ⟨.inr ⟨rfl, join_bad Hy.out Hx.out (fun h => by have h' : m = m0 := h.2.2.2.2.2; have e := HB2.out; rw [h'] at e; simp at e)⟩, (hbW2.trans (hbw3.mono hbW2.size)).drew⟩
      · have H1 := Lib.hid h1
        clear h1
        refine region_plan (S := fun w' => Below W.heap.size W w') [(true, 0), (true, 1), (true, 2), (false, 3), (true, 4), (true, 5), (true, 6), (true, 7), (true, 8), (true, 9), (true, 10), (true, 11), (true, 12), (true, 13), (true, 14), (true, 15), (true, 16), (true, 17), (true, 18), (true, 19), (true, 20), (true, 21), (true, 22), (true, 23), (true, 24), (true, 25), (true, 26), (true, 27), (true, 28), (true, 29), (true, 30), (true, 31), (true, 32), (true, 33), (true, 34), (true, 35), (true, 36), (true, 37), (true, 38), (true, 39), (true, 40), (true, 41), (true, 42), (true, 43), (true, 44), (true, 45), (true, 46), (true, 47)] (by kernel_rfl) (by kernel_rfl) (by kernel_rfl) rfl hbwd ?_
        simp only [planned_nil, planned_cons, nth_zero, nth_succ]
        iterate 3
          first
            | (refine plan_still2 (v := ?_) (a' := ?_) (by rfl) (fun w' hS' => ?_) ?_ ?_; rotate_left 2; (focus (go_simp <;> with_reducible rfl)); (focus (simp only [Act.put, List.setIfInBounds_toArray, List.set_cons_zero, List.set_cons_succ] <;> rfl)))
            | (refine plan_skip2 (a' := ?_) (by rfl) ?_ ?_; rotate_left 1; (focus (simp only [Act.put, List.setIfInBounds_toArray, List.set_cons_zero, List.set_cons_succ] <;> rfl)))
        refine plan_do (by rfl) (fun K' hK' => ?_)
        go_simp
        refine (fmay_any (s0 + (k : Int)) i (k : Int) (n : Int) (n32 m) B l.length d _ (by have := Hll.out; exact Nat.le_trans this (by decide))).mono ?_
        rintro e w3 ⟨rfl, hw3⟩
        rw [H1.out]
        have hbw3 : Below W.heap.size W w3 := hbwd.trans (hw3.mono hbwd.size)
        refine hK'.out _ _ hbw3 ?_
        clear hK' K'
        iterate 44
          first
            | (refine plan_still2 (v := ?_) (a' := ?_) (by rfl) (fun w' hS' => ?_) ?_ ?_; rotate_left 2; (focus (go_simp <;> with_reducible rfl)); (focus (simp only [Act.put, List.setIfInBounds_toArray, List.set_cons_zero, List.set_cons_succ] <;> rfl)))
            | (refine plan_skip2 (a' := ?_) (by rfl) ?_ ?_; rotate_left 1; (focus (simp only [Act.put, List.setIfInBounds_toArray, List.set_cons_zero, List.set_cons_succ] <;> rfl)))
        refine plan_nil ?_
        have hbr3 : Below wr.heap.size wr w3 := hbw.trans (hbw3.mono hbw.size)
        have HO3 := Lib.hid (own_below hown.out hbr3)
        have HB3 := Lib.hid (HBw.out.below hbw3 (Nat.le_refl _))
        have hb3 : Below w.heap.size w w3 := hb.trans (hbr3.mono hb.size)
        have HC := Lib.hid (Hcat.out k (by omega))
        have Hl' := Lib.hid (show l.length ≤ 100000 from Hll.out)
        have G5 := F5 w3 hbw3
        clear F0 F1 F2 F3 F4 F5 Y0 Y1 Y4
        go_wp2_with (refine wpList_app_own rfl (.tmp 71) (.tmp 73) bytesTy rfl w.heap.size _ _ _ rfl HO3.out B l.length d (bs l) rfl HB3.out (by rw [bs_length, Nat.mul_one]) (one_bs _) (by have := HC.out; have := Hl'.out; unfold maxLen; omega) (by have := HC.out; have := Hl'.out; omega) hb3.size ?_; intro v4 w4 hown4 hg4 hat4)
        refine ⟨⟨k + 1, by omega, by go_num, rfl, ?_, ?_, hb3.grown hg4 hb3.size (fun g hg => ?_)⟩, by simp [intOf]; omega⟩
        · unfold Hid
          rw [fcat_snoc L k _ Hx.out, List.length_append, bs_append]
          exact hown4
        · intro j x hj hx
          by_cases hjk : j = k
          · subst hjk
            rw [Hx.out] at hx
            cases hx
            exact ⟨H1.out, rfl, rfl, rfl, rfl, rfl⟩
          · exact hgood.out j x (by omega) hx
        · exact own_ge hown.out hg
    · have hkn : k = n := by omega
      subst hkn
      have htk : L.take k = L := List.take_of_length_le (by rw [← Hn.out]; exact Nat.le_refl _)
      rw [htk] at hown
      obtain ⟨A2, c2, rfl, -, -, hA2⟩ := own_at hown.out
      have HA2 := Lib.hid hA2
      have HC := Lib.hid (show (fcat L).length ≤ 200000 by have := Hcat.out k (by omega); rwa [htk] at this)
      have HYr := HA.out.below hb (Nat.le_refl _) |>.frame Hy.out
      obtain ⟨b', off', e', hbW, hYc⟩ := HYr.all (Nat.zero_lt_succ _)
      cases e'
      have Y4 : ∀ w', Below wr.heap.size wr w' → w'.cell? ⟨b, off + 4, none⟩ = some (.int .u32 (n32 m0)) := fun w' h => (h.cell (p := ⟨b, off + 4, none⟩) hbW).trans (by have := hYc 4 _ rfl; simpa using this)
      have hbwd : Below wr.heap.size wr wr.drew := (Below.refl _ _).drew
      have HG := Lib.hid (show ∀ j x, L[j]? = some x → goodF x.f ⟨s0, i0, p0, o0, m0, l0⟩ j L.length from fun j x hx => by have h1 := hgood.out j x (by have := (List.getElem?_eq_some_iff.1 hx).1; have := Hn.out; omega) hx; rw [Hn.out] at h1; exact h1)
      clear hA2 htk HYr hYc
      have hcase : Crc.sum (fcat L) = m0 ∨ (n32 (Crc.sum (fcat L)) != n32 m0) = true := by
        by_cases h : Crc.sum (fcat L) = m0
        · exact .inl h
        · right; simp only [bne_iff_ne, ne_eq]; exact fun e => h (n32_inj e)
      obtain ⟨S, hS⟩ : ∃ S, S = n32 (Crc.sum (fcat L)) := ⟨_, rfl⟩
      rw [← hS] at hcase
      have HS := Lib.hid hS
      have hcase2 : (Crc.sum (fcat L) = m0 ∧ (S != n32 m0) = false) ∨ (¬ Crc.sum (fcat L) = m0 ∧ (S != n32 m0) = true) := by
        rcases hcase with h | h
        · left; refine ⟨h, ?_⟩; rw [hS, h]; simp
        · right; refine ⟨fun e => ?_, h⟩; rw [hS, e] at h; simp at h
      clear hS hcase
      go_wp2_with fail
      refine region_plan (S := fun w' => Below wr.heap.size wr w') [(true, 0), (true, 1), (true, 2), (true, 3), (true, 5), (true, 6), (true, 7), (true, 8), (false, 4), (true, 9), (true, 10)] (by kernel_rfl) (by kernel_rfl) (by kernel_rfl) rfl hbwd ?_
      simp only [planned_nil, planned_cons, nth_zero, nth_succ]
      iterate 8
        first
          | (refine plan_still2 (v := ?_) (a' := ?_) (by rfl) (fun w' hS' => ?_) ?_ ?_; rotate_left 2; (focus (go_simp <;> with_reducible rfl)); (focus (simp only [Act.put, List.setIfInBounds_toArray, List.set_cons_zero, List.set_cons_succ] <;> rfl)))
          | (refine plan_skip2 (a' := ?_) (by rfl) ?_ ?_; rotate_left 1; (focus (simp only [Act.put, List.setIfInBounds_toArray, List.set_cons_zero, List.set_cons_succ] <;> rfl)))
      refine plan_do (by rfl) (fun K' hK' => ?_)
      go_simp
      refine (sum_any A2 (fcat L) _ c2 _ (HA2.out.below hbwd (Nat.le_refl _)) rfl (by have := HC.out; omega)).mono ?_
      rintro e w3 ⟨rfl, hw3⟩
      rw [← HS.out]
      have hbw3 : Below wr.heap.size wr w3 := hbwd.trans (hw3.mono hbwd.size)
      refine hK'.out _ _ hbw3 ?_
      clear hK' K'
      have hb3 : Below w.heap.size w w3 := hb.trans (hbw3.mono hb.size)
      have HO3 := Lib.hid (own_below hown.out hbw3)
      rcases hcase2 with ⟨h1, h2⟩ | ⟨h1, h2⟩
      · have H1 := Lib.hid h1
        clear h1
        iterate 2
          first
            | (refine plan_still2 (v := ?_) (a' := ?_) (by rfl) (fun w' hS' => ?_) ?_ ?_; rotate_left 2; (focus (go_simp <;> with_reducible rfl)); (focus (simp only [Act.put, List.setIfInBounds_toArray, List.set_cons_zero, List.set_cons_succ] <;> rfl)))
            | (refine plan_skip2 (a' := ?_) (by rfl) ?_ ?_; rotate_left 1; (focus (simp only [Act.put, List.setIfInBounds_toArray, List.set_cons_zero, List.set_cons_succ] <;> rfl)))
        refine plan_nil ?_
        go_wp2_with fail
        try rw [Exit.noGoto_ret]
        go_ret2
        exact ⟨.inl ⟨_, rfl, HO3.out, ⟨_, Hy.out, HG.out, H1.out⟩⟩, hb3⟩
      · have H1 := Lib.hid h1
        clear h1
        iterate 2
          first
            | (refine plan_still2 (v := ?_) (a' := ?_) (by rfl) (fun w' hS' => ?_) ?_ ?_; rotate_left 2; (focus (go_simp <;> with_reducible rfl)); (focus (simp only [Act.put, List.setIfInBounds_toArray, List.set_cons_zero, List.set_cons_succ] <;> rfl)))
            | (refine plan_skip2 (a' := ?_) (by rfl) ?_ ?_; rotate_left 1; (focus (simp only [Act.put, List.setIfInBounds_toArray, List.set_cons_zero, List.set_cons_succ] <;> rfl)))
        refine plan_nil ?_
        go_wp2_with fail
        try rw [Exit.noGoto_ret]
        go_ret2
        exact ⟨.inr ⟨rfl, fun ⟨z, hz, _, hs⟩ => by rw [Hy.out] at hz; cases hz; exact H1.out hs⟩, hb3⟩
end Go.Proofs.Ytcaejcdmkihmbaa
