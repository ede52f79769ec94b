/- The walk of the law FrameLoads. -/
import Derived.Test.YtcaejcdmkihmbaaFrameW
namespace Go.Proofs.Ytcaejcdmkihmbaa
open Go.RowKit

theorem cut_facts (l : List UInt8) (seq inc : Int) (h : Fr.cutOk l.length seq inc = true) (L : List FV) (hL : L.map FV.f = Fr.cut l seq inc) :
    ∀ k x, L[k]? = some x → ∃ ld B d, x = ⟨⟨seq + (k : Int), inc, (k : Int), (L.length : Int), Crc.sum l, ld⟩, B, d⟩ ∧ (k + 1 < L.length → ld.length = 45) ∧ ld.length ≤ 45 ∧ Fr.may (seq + (k : Int)) inc (k : Int) (L.length : Int) ld.length = true := by
  intro k x hx
  have hok := cut_ok l seq inc h
  have hxf : (Fr.cut l seq inc)[k]? = some x.f := by rw [← hL, List.getElem?_map, hx]; rfl
  have hm := hok k _ hxf
  have hlen : L.length = (Fr.cut l seq inc).length := by rw [← hL, List.length_map]
  obtain ⟨⟨s, i, p, o, m, ld⟩, B, d⟩ := x
  simp only at hxf
  have h90 := (cutOk_parts h).2.1
  refine ⟨ld, B, d, ?_⟩
  unfold Fr.cut at hxf hlen
  split at hxf
  · rename_i h45
    rw [if_pos h45] at hlen
    rcases k with _ | k <;> simp at hxf
    obtain ⟨rfl, rfl, rfl, rfl, rfl, rfl⟩ := hxf
    have hl1 : L.length = 1 := hlen
    refine ⟨by simp [hl1], fun h => by omega, h45, ?_⟩
    unfold Fr.ok at hm
    simpa [hl1] using hm
  · rename_i h45
    rw [if_neg h45] at hlen
    have hl2 : L.length = 2 := hlen
    rcases k with _ | _ | k <;> simp at hxf
    · obtain ⟨rfl, rfl, rfl, rfl, rfl, rfl⟩ := hxf
      refine ⟨by simp [hl2], fun h => by rw [List.length_take]; omega, by rw [List.length_take]; omega, ?_⟩
      unfold Fr.ok at hm
      simpa [hl2] using hm
    · obtain ⟨rfl, rfl, rfl, rfl, rfl, rfl⟩ := hxf
      refine ⟨by simp [hl2], fun h => by omega, by rw [List.length_drop]; omega, ?_⟩
      unfold Fr.ok at hm
      simpa [hl2] using hm

set_option maxRecDepth 100000 in
set_option maxHeartbeats 2000000 in
theorem floads_great (A : Option Addr) (n c : Nat) (seq inc : Int) (w : World) (hn : 1000 < n) :
    Calls Try.prog 4 #[.slice A n c, .int .i64 seq, .int .i64 inc] w fun e w' => e = .returned (.bool true) ∧ Below w.heap.size w w' := by
  have h1 : (1000 : Int) < (n : Int) := by omega
  go_enter Try.func4, Try.ntmps4
  go_wp2_with fail
  refine (wakes4_any _).mono ?_
  rintro e w2 ⟨rfl, hb2⟩
  go_wp2_with fail
  go_ret
  exact ⟨rfl, hb2⟩

set_option maxRecDepth 100000 in
set_option maxHeartbeats 2000000 in
theorem floads_no (A : Option Addr) (n c : Nat) (seq inc : Int) (w : World) (hn : n ≤ 1000) (hno : Fr.cutOk n seq inc = false) (hs1 : -9223372036854775808 ≤ seq) (hs2 : seq ≤ 9223372036854775807) :
    Calls Try.prog 4 #[.slice A n c, .int .i64 seq, .int .i64 inc] w fun e w' => e = .returned (.bool true) ∧ Below w.heap.size w w' := by
  have h1 : ¬ ((1000 : Int) < (n : Int)) := by omega
  have HS1 := Lib.hid hs1
  have HS2 := Lib.hid hs2
  clear hs1 hs2
  go_enter Try.func4, Try.ntmps4
  go_wp2_with fail
  refine (cut_no A n c seq inc _ hn hno HS1.out HS2.out).mono ?_
  rintro e w2 ⟨x, rfl, hx, rfl⟩
  go_wp2_with fail
  refine (wakes4_any _).mono ?_
  rintro e w2 ⟨rfl, hb2⟩
  go_wp2_with fail
  go_ret
  exact ⟨rfl, hb2⟩

set_option maxRecDepth 100000 in
set_option maxHeartbeats 2000000 in
theorem floads_yes (A : Option Addr) (l : List UInt8) (n c : Nat) (seq inc : Int) (w : World) (hA : At w A (bs l)) (hn : n = l.length) (hc : n ≤ c) (hok : Fr.cutOk n seq inc = true) :
    Calls Try.prog 4 #[.slice A n c, .int .i64 seq, .int .i64 inc] w fun e w' => e = .returned (.bool true) ∧ Below w.heap.size w w' := by
  have HA := Lib.hid hA
  have Hn := Lib.hid hn
  have Hok := Lib.hid hok
  obtain ⟨q1, q2, q3, q4, q5, q6, q7⟩ := cutOk_parts hok
  have Q3 := Lib.hid q3
  have Q6 := Lib.hid q6
  have h1 : ¬ ((1000 : Int) < (n : Int)) := by omega
  clear hA hn hok q7 q6
  go_enter Try.func4, Try.ntmps4
  go_wp2_with fail
  refine (cut_yes A l n c seq inc _ HA.out Hn.out hc Hok.out).mono ?_
  rintro e w2 ⟨g, d, L, rfl, hL, hd, hg, hat, hR, hb2⟩
  have hok' : Fr.cutOk l.length seq inc = true := by have := Hok.out; rwa [Hn.out] at this
  have hf := cut_facts l seq inc hok' L hL
  generalize Crc.sum l = s at hf
  have HF := Lib.hid hf
  clear hf
  have Hcat := Lib.hid (cut_joins l seq inc hok' L hL).2
  have hlen : L.length = (Fr.cut l seq inc).length := by rw [← hL, List.length_map]
  have hl1 : 1 ≤ L.length := by rw [hlen]; exact (cut_pos l seq inc).1
  have hl2 : L.length ≤ 2 := by rw [hlen]; exact (cut_pos l seq inc).2
  obtain ⟨m, hm⟩ : ∃ m, m = L.length := ⟨_, rfl⟩
  have Hm := Lib.hid hm
  rw [← hm] at hl1 hl2 hd
  rw [← hm]
  have Hat := Lib.hid hat
  have HR := Lib.hid hR
  have hgl : g < w2.heap.size := by
    obtain ⟨b', off', e, hlt, _⟩ := hat.all (by rw [fcells_length]; omega)
    cases e; exact hlt
  obtain ⟨y, hy⟩ : ∃ y, L[0]? = some y := ⟨_, List.getElem?_eq_getElem (by omega)⟩
  obtain ⟨ld0, B0, d0, rfl, -, -, -⟩ := HF.out 0 y hy
  have Hy := Lib.hid hy
  have Hfl : Hid (∀ k, k ≤ 2 → (fcat (L.take k)).length ≤ 2 * 100) := fun k hk => fcat_le L k 100 (fun x hx => by
    obtain ⟨j, hj⟩ := List.getElem?_of_mem hx
    obtain ⟨ld, B, d, rfl, _, h45, _⟩ := HF.out j x hj
    show ld.length ≤ 100
    omega) hk
  clear hL hat hR hok' hlen hm hy
  go_wp2_with fail
  go_loopw [9, 10] (fun bv i wr => ∃ k : Nat, k ≤ m ∧ i = .int .i64 k ∧ Hid (wr.ownsRow w2.heap.size 5 1 bv (fcat (L.take k)).length (bs (fcat (L.take k)))) ∧ Below w2.heap.size w2 wr) (fun _ i _ => m - (intOf i).toNat)
  case atStart => exact ⟨0, by omega, rfl, World.ownsRow_nil _ _ _ _, Below.refl _ _⟩
  case round =>
    obtain ⟨k, hk, rfl, hown, hb2r⟩ := hrel
    have hatr := Lib.hid (Hat.out.below hb2r (Nat.le_refl _))
    have hRr := Lib.hid (HR.out.below hb2r (Nat.le_refl _))
    have hb : Below w.heap.size w wr := hb2.trans (hb2r.mono hb2.size)
    by_cases hlt : (k : Int) < (m : Int)
    · obtain ⟨x, hx⟩ : ∃ x, L[k]? = some x := ⟨_, List.getElem?_eq_getElem (by have := Hm.out; omega)⟩
      obtain ⟨ld, B, d', rfl, hld, hld2, hmay⟩ := HF.out k x hx
      have Hx := Lib.hid hx
      obtain ⟨nl, hnl⟩ : ∃ nl, nl = ld.length := ⟨_, rfl⟩
      rw [← hnl] at hld hld2 hmay
      have Hnl := Lib.hid hnl
      rw [← Hm.out] at hld hmay
      have HX := Lib.hid (show At wr (some ⟨g, k * 6, none⟩) (fc (seq + (k : Int)) inc (k : Int) (L.length : Int) (n32 s) B nl d') from by rw [hnl]; have := hatr.out.frame Hx.out; rwa [Nat.zero_add] at this)
      clear hnl
      have HYr := Lib.hid (show At wr (some ⟨g, 0, none⟩) _ from by have := hatr.out.frame Hy.out; rwa [Nat.zero_mul, Nat.zero_add] at this)
      have HB := Lib.hid (hRr.out _ (List.mem_of_getElem? Hx.out))
      have Hmay := Lib.hid hmay
      have Hld := Lib.hid hld
      clear hx hmay hld
      rw [← Hm.out] at HX HYr
      have k0 : (0 : Int) ≤ (k : Int) := by omega
      have HI := Lib.hid (show (Try.prog.info? 33).map (·.size) = some (fc (seq + (k : Int)) inc (k : Int) (m : Int) (n32 (s)) B nl d').length by kernel_rfl)
      go_wp2_with (refine wpList_load_at rfl 33 (.tmp 39) rfl g (k * 6) rfl [.int .i64 (seq + (k : Int)), .int .i64 inc, .int .i64 (k : Int), .int .i64 (m : Int), .int .u32 (n32 (s)), .slice B nl d'] _ HX.out (Nat.zero_lt_succ _) Try.underlying33 rfl HI.out ?_)
      have hF : Blk (wr.alloc (.cells (fc (seq + (k : Int)) inc (k : Int) (m : Int) (n32 (s)) B nl d').toArray 33)) wr.heap.size 33 (fc (seq + (k : Int)) inc (k : Int) (m : Int) (n32 (s)) B nl d') := Blk.new _ _ _
      have hY := HYr.out.alloc (.cells (fc (seq + (k : Int)) inc (k : Int) (m : Int) (n32 (s)) B nl d').toArray 33)
      have hBw := HB.out.alloc (.cells (fc (seq + (k : Int)) inc (k : Int) (m : Int) (n32 (s)) B nl d').toArray 33)
      have hbw : Below wr.heap.size wr (wr.alloc (.cells (fc (seq + (k : Int)) inc (k : Int) (m : Int) (n32 (s)) B nl d').toArray 33)) := (Below.refl _ _).alloc (Nat.le_refl _) _
      change Code.wp _ _ _ _ (wr.alloc (.cells (fc (seq + (k : Int)) inc (k : Int) (m : Int) (n32 (s)) B nl d').toArray 33))
      generalize wr.alloc (.cells (fc (seq + (k : Int)) inc (k : Int) (m : Int) (n32 (s)) B nl d').toArray 33) = W at hF hY hBw hbw ⊢
      obtain ⟨b', off', e', hbW, hYc⟩ := hY.all (Nat.zero_lt_succ _)
      cases e'
      have HBw := Lib.hid hBw
      have F0 : ∀ w', Below W.heap.size W w' → w'.cell? ⟨wr.heap.size, 0, none⟩ = some (.int .i64 (seq + (k : Int))) := fun w' h => (hF.below h hF.lt).cell 0
      have F1 : ∀ w', Below W.heap.size W w' → w'.cell? ⟨wr.heap.size, 1, none⟩ = some (.int .i64 inc) := fun w' h => (hF.below h hF.lt).cell 1
      have F2 : ∀ w', Below W.heap.size W w' → w'.cell? ⟨wr.heap.size, 2, none⟩ = some (.int .i64 (k : Int)) := fun w' h => (hF.below h hF.lt).cell 2
      have F3 : ∀ w', Below W.heap.size W w' → w'.cell? ⟨wr.heap.size, 3, none⟩ = some (.int .i64 (m : Int)) := fun w' h => (hF.below h hF.lt).cell 3
      have F4 : ∀ w', Below W.heap.size W w' → w'.cell? ⟨wr.heap.size, 4, none⟩ = some (.int .u32 (n32 (s))) := fun w' h => (hF.below h hF.lt).cell 4
      have F5 : ∀ w', Below W.heap.size W w' → w'.cell? ⟨wr.heap.size, 5, none⟩ = some (.slice B nl d') := fun w' h => (hF.below h hF.lt).cell 5
      have Y4 : ∀ w', Below W.heap.size W w' → w'.cell? ⟨g, 4, none⟩ = some (.int .u32 (n32 (s))) := fun w' h => (h.cell (p := ⟨g, 4, none⟩) hbW).trans (by have := hYc 4 _ rfl; simpa using this)
      have hbwd : Below W.heap.size W W.drew := (Below.refl _ _).drew
      have hwr : IntKind.i64.wrap (seq + (k : Int)) = seq + (k : Int) := IntWalk.i64_in _ (by have := Q3.out; have := Q6.out; omega)
      have hwm : IntKind.i64.wrap ((m : Int) - 1) = (m : Int) - 1 := IntWalk.i64_in _ (by omega)
      have hm0 : (0 : Int) < (m : Int) := by omega
      have hm00 : 0 < m := by omega
      have hcase : (k + 1 < m ∧ nl = 45) ∨ ¬ ((k : Int) < (m : Int) - 1) := by
        by_cases h : k + 1 < m
        · exact .inl ⟨h, Hld.out h⟩
        · right; omega
      clear hF hY hBw hYc HYr
      rcases hcase with ⟨hc1, rfl⟩ | hc1
      · have hc3 : (k : Int) < (m : Int) - 1 := by omega
        refine region_plan (S := fun w' => Below W.heap.size W w') [(true, 0), (true, 1), (true, 2), (true, 3), (true, 4), (true, 5), (true, 6), (true, 7), (true, 8), (true, 9), (true, 10), (true, 11), (true, 12), (true, 13), (true, 14), (true, 15), (true, 16), (true, 17), (true, 18), (true, 19), (true, 20), (true, 21), (true, 22), (true, 23), (true, 24), (true, 25), (true, 26), (true, 27), (true, 28), (true, 29), (true, 30), (true, 31), (true, 32), (true, 33), (true, 34), (true, 35), (true, 36), (true, 37), (true, 38), (true, 39), (true, 40), (true, 41), (true, 42), (true, 43), (true, 44), (true, 45), (true, 46), (true, 47), (true, 48), (false, 49), (true, 50), (true, 51)] (by kernel_rfl) (by kernel_rfl) (by kernel_rfl) rfl hbwd ?_
        simp only [planned_nil, planned_cons, nth_zero, nth_succ]
        iterate 49
          first
            | (refine plan_still2 (v := ?_) (a' := ?_) (by rfl) (fun w' hS' => ?_) ?_ ?_; rotate_left 2; (focus (go_simp <;> with_reducible rfl)); (focus (simp only [Act.put, List.setIfInBounds_toArray, List.set_cons_zero, List.set_cons_succ] <;> rfl)))
            | (refine plan_skip2 (a' := ?_) (by rfl) ?_ ?_; rotate_left 1; (focus (simp only [Act.put, List.setIfInBounds_toArray, List.set_cons_zero, List.set_cons_succ] <;> rfl)))
        refine plan_do (by rfl) (fun K' hK' => ?_)
        go_simp
        refine (fmay_any (seq + (k : Int)) inc (k : Int) (m : Int) (n32 s) B 45 d' _ (by omega)).mono ?_
        rintro e w3 ⟨rfl, hw3⟩
        rw [Hmay.out]
        have hbw3 : Below W.heap.size W w3 := hbwd.trans (hw3.mono hbwd.size)
        refine hK'.out _ _ hbw3 ?_
        clear hK' K'
        iterate 2
          first
            | (refine plan_still2 (v := ?_) (a' := ?_) (by rfl) (fun w' hS' => ?_) ?_ ?_; rotate_left 2; (focus (go_simp <;> with_reducible rfl)); (focus (simp only [Act.put, List.setIfInBounds_toArray, List.set_cons_zero, List.set_cons_succ] <;> rfl)))
            | (refine plan_skip2 (a' := ?_) (by rfl) ?_ ?_; rotate_left 1; (focus (simp only [Act.put, List.setIfInBounds_toArray, List.set_cons_zero, List.set_cons_succ] <;> rfl)))
        refine plan_nil ?_
        have hbr3 : Below wr.heap.size wr w3 := hbw.trans (hbw3.mono hbw.size)
        have HO3 := Lib.hid (own_below hown.out hbr3)
        have HB3 := Lib.hid (HBw.out.below hbw3 (Nat.le_refl _))
        have hb23 : Below w2.heap.size w2 w3 := hb2r.trans (hbr3.mono hb2r.size)
        have HC := Lib.hid (Hfl.out k (by omega))
        have G5 := F5 w3 hbw3
        have Hld2 := Lib.hid hld2
        clear F0 F1 F2 F3 F4 F5 Y4 hld2
        go_wp2_with (refine wpList_app_own rfl (.tmp 93) (.tmp 95) bytesTy rfl w2.heap.size _ _ _ rfl HO3.out B 45 d' (bs ld) rfl HB3.out (by rw [bs_length, Nat.mul_one]; exact Hnl.out.symm) (one_bs _) (by have := HC.out; have := Hld2.out; unfold maxLen; omega) (by have := HC.out; have := Hld2.out; omega) hb23.size ?_; intro v4 w4 hown4 hg4 hat4)
        refine ⟨⟨k + 1, by omega, by go_num, ?_, hb23.grown hg4 hb23.size (fun g' hg' => own_ge hown.out hg')⟩, by simp [intOf]; omega⟩
        unfold Hid
        rw [fcat_snoc L k _ Hx.out, List.length_append, bs_append]
        show w4.ownsRow _ _ _ _ (_ + ld.length) _
        rw [← Hnl.out]
        exact hown4
      · refine region_plan (S := fun w' => Below W.heap.size W w') [(true, 0), (true, 1), (true, 2), (true, 3), (true, 4), (true, 5), (true, 6), (true, 7), (true, 8), (true, 9), (true, 10), (true, 11), (true, 12), (true, 13), (true, 14), (true, 15), (true, 16), (true, 17), (true, 18), (true, 19), (true, 20), (true, 21), (true, 22), (true, 23), (true, 24), (true, 25), (true, 26), (true, 27), (true, 28), (true, 29), (true, 30), (true, 31), (true, 32), (true, 33), (true, 34), (true, 35), (true, 36), (true, 37), (true, 38), (true, 39), (true, 40), (true, 41), (true, 42), (true, 43), (true, 44), (true, 45), (true, 46), (true, 47), (true, 48), (false, 49), (true, 50), (true, 51)] (by kernel_rfl) (by kernel_rfl) (by kernel_rfl) rfl hbwd ?_
        simp only [planned_nil, planned_cons, nth_zero, nth_succ]
        iterate 49
          first
            | (refine plan_still2 (v := ?_) (a' := ?_) (by rfl) (fun w' hS' => ?_) ?_ ?_; rotate_left 2; (focus (go_simp <;> with_reducible rfl)); (focus (simp only [Act.put, List.setIfInBounds_toArray, List.set_cons_zero, List.set_cons_succ] <;> rfl)))
            | (refine plan_skip2 (a' := ?_) (by rfl) ?_ ?_; rotate_left 1; (focus (simp only [Act.put, List.setIfInBounds_toArray, List.set_cons_zero, List.set_cons_succ] <;> rfl)))
        refine plan_do (by rfl) (fun K' hK' => ?_)
        go_simp
        refine (fmay_any (seq + (k : Int)) inc (k : Int) (m : Int) (n32 s) B nl d' _ (by omega)).mono ?_
        rintro e w3 ⟨rfl, hw3⟩
        rw [Hmay.out]
        have hbw3 : Below W.heap.size W w3 := hbwd.trans (hw3.mono hbwd.size)
        refine hK'.out _ _ hbw3 ?_
        clear hK' K'
        iterate 2
          first
            | (refine plan_still2 (v := ?_) (a' := ?_) (by rfl) (fun w' hS' => ?_) ?_ ?_; rotate_left 2; (focus (go_simp <;> with_reducible rfl)); (focus (simp only [Act.put, List.setIfInBounds_toArray, List.set_cons_zero, List.set_cons_succ] <;> rfl)))
            | (refine plan_skip2 (a' := ?_) (by rfl) ?_ ?_; rotate_left 1; (focus (simp only [Act.put, List.setIfInBounds_toArray, List.set_cons_zero, List.set_cons_succ] <;> rfl)))
        refine plan_nil ?_
        have hbr3 : Below wr.heap.size wr w3 := hbw.trans (hbw3.mono hbw.size)
        have HO3 := Lib.hid (own_below hown.out hbr3)
        have HB3 := Lib.hid (HBw.out.below hbw3 (Nat.le_refl _))
        have hb23 : Below w2.heap.size w2 w3 := hb2r.trans (hbr3.mono hb2r.size)
        have HC := Lib.hid (Hfl.out k (by omega))
        have G5 := F5 w3 hbw3
        have Hld2 := Lib.hid hld2
        clear F0 F1 F2 F3 F4 F5 Y4 hld2
        go_wp2_with (refine wpList_app_own rfl (.tmp 93) (.tmp 95) bytesTy rfl w2.heap.size _ _ _ rfl HO3.out B nl d' (bs ld) rfl HB3.out (by rw [bs_length, Nat.mul_one]; exact Hnl.out.symm) (one_bs _) (by have := HC.out; have := Hld2.out; unfold maxLen; omega) (by have := HC.out; have := Hld2.out; omega) hb23.size ?_; intro v4 w4 hown4 hg4 hat4)
        refine ⟨⟨k + 1, by omega, by go_num, ?_, hb23.grown hg4 hb23.size (fun g' hg' => own_ge hown.out hg')⟩, by simp [intOf]; omega⟩
        unfold Hid
        rw [fcat_snoc L k _ Hx.out, List.length_append, bs_append]
        show w4.ownsRow _ _ _ _ (_ + ld.length) _
        rw [← Hnl.out]
        exact hown4
    · have hkm : k = m := by omega
      subst hkm
      have htk : L.take k = L := List.take_of_length_le (by rw [← Hm.out]; exact Nat.le_refl _)
      rw [htk, Hcat.out] at hown
      obtain ⟨A2, c2, rfl, -, -, hA2⟩ := own_at hown.out
      have hcv1 : (convert 22 9 (.slice A2 l.length c2)).run Try.prog wr = .ok (.string (str l)) wr := convStr wr _ _ _ l hA2 rfl
      have hcv2 : (convert 22 9 (.slice A n c)).run Try.prog wr = .ok (.string (str l)) wr := convStr wr _ _ _ l (HA.out.below (hb2.trans (hb2r.mono hb2.size)) (Nat.le_refl _)) Hn.out
      clear htk hA2
      go_wp2_with fail
      refine (wakes4_any _).mono ?_
      rintro e w4 ⟨rfl, hb4⟩
      go_wp2_with fail
      go_ret
      exact ⟨rfl, hb.trans (hb4.mono hb.size)⟩
end Go.Proofs.Ytcaejcdmkihmbaa
